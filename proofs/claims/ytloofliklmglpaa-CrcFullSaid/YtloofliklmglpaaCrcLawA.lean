/- The walks of the laws CrcSums, CrcExtends, CrcFrames, CrcOpens. -/
import Derived.Test.YtloofliklmglpaaCrcArgs
namespace Go.Proofs.Ytloofliklmglpaa
open Go.RowKit

set_option maxRecDepth 100000 in
set_option maxHeartbeats 3200000 in
theorem sums_walk (A : Option Addr) (n cap : Nat) (l : List UInt8) (w : World) (h : BytesIn w A n cap l) :
    Calls Try.prog 3 #[.slice A n cap] w fun e w' => e = .returned (.bool true) ∧ Below w.heap.size w w' := by
  by_cases hn : n ≤ 5000
  · have hl : l.length ≤ 5000 := by rw [← h.len]; exact hn
    have H1 := Lib.hid (sum_any A n cap l h.len w h.reads (by omega))
    have H2 := Lib.hid (rsum_any A n cap l h.len w h.reads (by omega))
    generalize Cr.sum l = s at H1 H2
    have hn' : ¬ (5000 : Int) < (n : Int) := by omega
    clear h hn hl
    go_enter Try.func3, Try.ntmps3
    go_wp2_with fail
    refine H1.out.mono ?_
    rintro e w' ⟨rfl, rfl⟩
    go_wp2_with fail
    refine H2.out.mono ?_
    rintro e w' ⟨rfl, rfl⟩
    go_wp2_with fail
    refine (cawake_any _).mono ?_
    rintro e w2 ⟨rfl, hb2⟩
    go_wp2
    go_ret
    exact ⟨rfl, hb2⟩
  · have hn' : (5000 : Int) < (n : Int) := by omega
    clear h hn
    go_enter Try.func3, Try.ntmps3
    go_wp2_with fail
    refine (cawake_any _).mono ?_
    rintro e w2 ⟨rfl, hb2⟩
    go_wp2
    go_ret
    exact ⟨rfl, hb2⟩

set_option maxRecDepth 100000 in
set_option maxHeartbeats 3200000 in
theorem frames_walk (A : Option Addr) (n cap : Nat) (l : List UInt8) (w : World) (h : BytesIn w A n cap l) :
    Calls Try.prog 5 #[.slice A n cap] w fun e w' => e = .returned (.bool true) ∧ Below w.heap.size w w' := by
  by_cases hn : n ≤ 5000
  · have hl : l.length ≤ 5000 := by rw [← h.len]; exact hn
    have H1 := Lib.hid (frame_any A n cap l h.len h.nil w h.reads (by omega))
    have H2 := Lib.hid (fun w' (hb : Below w.heap.size w w') => rframe_any A n cap l h.len h.nil w' (h.reads.to hb) (by omega))
    generalize Cr.fr l = s at H1 H2
    obtain ⟨s1, s2⟩ := s
    simp only at H1 H2
    have hn' : ¬ (5000 : Int) < (n : Int) := by omega
    clear h hn hl
    go_enter Try.func5, Try.ntmps5
    go_wp2_with fail
    refine H1.out.mono ?_
    rintro e w1 ⟨A1, _, cap1, rfl, rfl, hown1, hb1⟩
    have HX1 := Lib.hid (own_rd hown1)
    have HB1 := Lib.hid hb1
    clear hown1 hb1
    go_wp2_with fail
    refine (H2.out w1 HB1.out).mono ?_
    rintro e w2 ⟨A2, _, cap2, rfl, rfl, hown2, hb2⟩
    have hcv1 := conv_b (w := w2) A1 _ cap1 s1 (HX1.out.to hb2) rfl
    have hcv2 := conv_b A2 _ cap2 s1 (own_rd hown2) rfl
    have HB2 := Lib.hid (on HB1.out hb2)
    clear hown2 hb2
    go_wp2_with fail
    refine (cawake_any _).mono ?_
    rintro e w3 ⟨rfl, hb3⟩
    go_wp2
    go_ret
    exact ⟨rfl, on HB2.out hb3⟩
  · have hn' : (5000 : Int) < (n : Int) := by omega
    clear h hn
    go_enter Try.func5, Try.ntmps5
    go_wp2_with fail
    refine (cawake_any _).mono ?_
    rintro e w2 ⟨rfl, hb2⟩
    go_wp2
    go_ret
    exact ⟨rfl, hb2⟩

set_option maxRecDepth 100000 in
set_option maxHeartbeats 3200000 in
theorem opens_walk (A : Option Addr) (n cap : Nat) (l : List UInt8) (w : World) (h : BytesIn w A n cap l) :
    Calls Try.prog 7 #[.slice A n cap] w fun e w' => e = .returned (.bool true) ∧ Below w.heap.size w w' := by
  by_cases hn : n ≤ 5000
  · have hl : l.length ≤ 5000 := by rw [← h.len]; exact hn
    have H1 := Lib.hid (open_any A n cap l h.len h.room w h.reads (by omega))
    have H2 := Lib.hid (fun w' (hb : Below w.heap.size w w') => ropen_any A n cap l h.len h.room w' (h.reads.to hb) (by omega))
    generalize Cr.opn l = s at H1 H2
    obtain ⟨s1, s2, s3⟩ := s
    have hn' : ¬ (5000 : Int) < (n : Int) := by omega
    clear h hn hl
    go_enter Try.func7, Try.ntmps7
    go_wp2_with fail
    refine H1.out.mono ?_
    rintro e w1 ⟨A1, _, cap1, rfl, rfl, hown1, hb1⟩
    have HX1 := Lib.hid (own_rd hown1)
    have HB1 := Lib.hid hb1
    clear hown1 hb1
    go_wp2_with fail
    refine (H2.out w1 HB1.out).mono ?_
    rintro e w2 ⟨A2, _, cap2, rfl, rfl, hown2, hb2⟩
    have hcv1 := conv_b (w := w2) A1 _ cap1 s1 (HX1.out.to hb2) rfl
    have hcv2 := conv_b A2 _ cap2 s1 (own_rd hown2) rfl
    have HB2 := Lib.hid (on HB1.out hb2)
    clear hown2 hb2
    go_wp2_with fail
    refine (cawake_any _).mono ?_
    rintro e w3 ⟨rfl, hb3⟩
    go_wp2
    go_ret
    exact ⟨rfl, on HB2.out hb3⟩
  · have hn' : (5000 : Int) < (n : Int) := by omega
    clear h hn
    go_enter Try.func7, Try.ntmps7
    go_wp2_with fail
    refine (cawake_any _).mono ?_
    rintro e w2 ⟨rfl, hb2⟩
    go_wp2
    go_ret
    exact ⟨rfl, hb2⟩

set_option maxRecDepth 100000 in
set_option maxHeartbeats 3200000 in
theorem extends_walk (s : Nat) (A : Option Addr) (n cap : Nat) (l : List UInt8) (A0 : Option Addr) (m cap0 : Nat) (r : List UInt8) (w : World) (hs : s < 4294967296) (h : BytesIn w A n cap l) (h0 : BytesIn w A0 m cap0 r) :
    Calls Try.prog 4 #[.int .u32 (s : Int), .slice A n cap, .slice A0 m cap0] w fun e w' => e = .returned (.bool true) ∧ Below w.heap.size w w' := by
  by_cases hn : n ≤ 5000
  · have hn' : ¬ (5000 : Int) < (n : Int) := by omega
    by_cases hm : m ≤ 5000
    · have hm' : ¬ (5000 : Int) < (m : Int) := by omega
      have hl : l.length ≤ 5000 := by rw [← h.len]; exact hn
      have hr : r.length ≤ 5000 := by rw [← h0.len]; exact hm
      obtain ⟨i0, hi, hz0, hz1, hz2⟩ := info_parts info_u8
      obtain ⟨nm, hnm⟩ : ∃ nm, nm = n + m := ⟨_, rfl⟩
      have H1 := Lib.hid (fun w' (hb : Below w.heap.size w w') => extend_any s A0 m cap0 r h0.len hs w' (h0.reads.to hb) (by omega))
      have H2 := Lib.hid (fun w' (hb : Below w.heap.size w w') => rextend_any s A0 m cap0 r h0.len hs w' (h0.reads.to hb) (by omega))
      have H3 := Lib.hid (fun w' (hb : Below w.heap.size w w') => sum_any A n cap l h.len w' (h.reads.to hb) (by omega))
      have H4 := Lib.hid (fun w' (hb : Below w.heap.size w w') => extend_any (Cr.sum l) A0 m cap0 r h0.len (Cr.sum_lt l) w' (h0.reads.to hb) (by omega))
      have H5 := Lib.hid (fun A1 cap1 w' (hx : Rd w' A1 (bv (l ++ r))) => sum_any A1 nm cap1 (l ++ r) (by rw [List.length_append, ← h.len, ← h0.len, hnm]) w' hx (by rw [List.length_append]; omega))
      have H6 := Lib.hid (fun w' => extend_any s none 0 0 [] rfl hs w' (Rd.nil _ _) (by decide))
      rw [Cr.ext_nil hs] at H6
      rw [show Cr.ext (Cr.sum l) r = Cr.sum (l ++ r) from by rw [sum_eq, sum_eq, Cr.ext_append]] at H4
      have HNM := Lib.hid hnm
      have HL := Lib.hid (show (bv l).length = n by rw [bv_length, ← h.len])
      have HR := Lib.hid (show (bv r).length = m by rw [bv_length, ← h0.len])
      have HX := Lib.hid (fun w' (hb : Below w.heap.size w w') => h.reads.to hb)
      have HY := Lib.hid (fun w' (hb : Below w.heap.size w w') => h0.reads.to hb)
      have HC := Lib.hid h.nil
      have HC0 := Lib.hid h0.nil
      generalize Cr.ext s r = x1 at H1 H2
      generalize Cr.sum (l ++ r) = x2 at H4 H5
      generalize Cr.sum l = x3 at H3 H4
      have hown0 := Lib.hid (World.ownsRow_lit (base := w.heap.size) (e := 5) (size := 1) w #[] 0 (Nat.le_refl _) (by unfold maxLen; omega) rfl)
      clear h h0 hnm hl hr hs
      go_enter Try.func4, Try.ntmps4
      go_wp2_with (first
        | (at_builtin; refine wpList_appN rfl _ _ 22 rfl w.heap.size 5 i0 (.int .u8 0) 1 Try.underlying22 hi hz0 hz1 hz2 rfl _ 0 [] rfl hown0.out A n cap (bv l) rfl HL.out HC.out (HX.out _ (below_new w _)) (bv_one l) (by unfold maxLen; omega) (by omega) (by simp) n (Nat.zero_add n).symm ?_; intro A1 cap1 w1 hcap1 hown1 hb1; have HO1 := Lib.hid hown1; have HB1 := Lib.hid ((below_new w _).trans hb1); clear hown1 hb1 hcap1)
        | (at_builtin; refine wpList_appN rfl _ _ 22 rfl w.heap.size 5 i0 (.int .u8 0) 1 Try.underlying22 hi hz0 hz1 hz2 rfl _ n _ rfl HO1.out A0 m cap0 (bv r) rfl HR.out HC0.out (HY.out _ HB1.out) (bv_one r) (by unfold maxLen; omega) (by omega) HB1.out.size nm HNM.out ?_; intro A2 cap2 w2 hcap2 hown2 hb2; have HO2 := Lib.hid hown2; have HB2 := Lib.hid (HB1.out.trans hb2); clear hown2 hb2 hcap2))
      have HX2 := Lib.hid (show Rd w2 A2 (bv (l ++ r)) by
        have := own_rd HO2.out
        rwa [List.nil_append, ← bv_append] at this)
      refine (H1.out w2 HB2.out).mono ?_
      rintro e w' ⟨rfl, rfl⟩
      go_wp2_with fail
      refine (H2.out w2 HB2.out).mono ?_
      rintro e w' ⟨rfl, rfl⟩
      go_wp2_with fail
      refine (H3.out w2 HB2.out).mono ?_
      rintro e w' ⟨rfl, rfl⟩
      go_wp2_with fail
      refine (H4.out w2 HB2.out).mono ?_
      rintro e w' ⟨rfl, rfl⟩
      go_wp2_with fail
      refine (H5.out A2 cap2 w2 HX2.out).mono ?_
      rintro e w' ⟨rfl, rfl⟩
      go_wp2_with fail
      refine (H6.out w2).mono ?_
      rintro e w' ⟨rfl, rfl⟩
      go_wp2_with fail
      refine (cawake_any _).mono ?_
      rintro e w3 ⟨rfl, hb3⟩
      go_wp2
      go_ret
      exact ⟨rfl, on HB2.out hb3⟩
    · have hm' : (5000 : Int) < (m : Int) := by omega
      clear h h0 hn hm
      go_enter Try.func4, Try.ntmps4
      go_wp2_with fail
      refine (cawake_any _).mono ?_
      rintro e w2 ⟨rfl, hb2⟩
      go_wp2
      go_ret
      exact ⟨rfl, hb2⟩
  · have hn' : (5000 : Int) < (n : Int) := by omega
    clear h h0 hn
    go_enter Try.func4, Try.ntmps4
    go_wp2_with fail
    refine (cawake_any _).mono ?_
    rintro e w2 ⟨rfl, hb2⟩
    go_wp2
    go_ret
    exact ⟨rfl, hb2⟩

theorem extends_walk_int (s : Int) (A : Option Addr) (n cap : Nat) (l : List UInt8) (A0 : Option Addr) (m cap0 : Nat) (r : List UInt8) (w : World) (hs : 0 ≤ s ∧ s ≤ 4294967295) (h : BytesIn w A n cap l) (h0 : BytesIn w A0 m cap0 r) :
    Calls Try.prog 4 #[.int .u32 s, .slice A n cap, .slice A0 m cap0] w fun e w' => e = .returned (.bool true) ∧ Below w.heap.size w w' := by
  obtain ⟨k, rfl⟩ := Int.eq_ofNat_of_zero_le hs.1
  exact extends_walk k A n cap l A0 m cap0 r w (by omega) h h0
end Go.Proofs.Ytloofliklmglpaa
