/- The walk of the law WireLengths. -/
import Derived.Test.YtfpealokldbabaaWireLawA
import Derived.Test.YtfpealokldbabaaWireLaws
namespace Go.Proofs.Ytfpealokldbabaa
open Go.RowKit

theorem first_group (u : Nat) (hu : u < 18446744073709551616) : 1 + (if u / 128 = 0 then 0 else (Wp.varint (u / 128)).length) = (Wp.varint u).length := by
  by_cases h : u < 128
  · rw [if_pos (by omega), Wp.varint_len_small h]
  · rw [if_neg (by omega), Wp.varint_len_big (by omega) hu]; omega
theorem next_group (nn xx n1 : Nat) (h0 : xx ≠ 0) (hxx : xx < 18446744073709551616) (h : nn + (if xx = 0 then 0 else (Wp.varint xx).length) = n1) :
    nn + 1 + (if xx / 128 = 0 then 0 else (Wp.varint (xx / 128)).length) = n1 := by
  rw [if_neg h0, ← first_group xx hxx] at h
  omega

set_option maxRecDepth 100000 in
set_option maxHeartbeats 3200000 in
theorem lengths_walk (u v : Nat) (w : World) (hu : u < 18446744073709551616) (hv : v < 18446744073709551616) :
    Calls Try.prog 4 #[.int .u64 (u : Int), .int .u64 (v : Int)] w fun e w' => e = .returned (.bool true) ∧ Below w.heap.size w w' := by
  by_cases h : v < u
  · have hi : (v : Int) < (u : Int) := by omega
    have H1 := Lib.hid (fun w' => putuint_any none 0 0 [] rfl v w' (Rd.nil _ _) hv (by decide))
    have H2 := Lib.hid (fun w' => putuint_any none 0 0 [] rfl u w' (Rd.nil _ _) hu (by decide))
    go_enter Try.func4, Try.ntmps4
    go_wp2_with fail
    refine (H1.out _).mono ?_
    rintro e w1 ⟨A1, n1, cap1, rfl, hl1, hown1, hb1⟩
    have HL1 := Lib.hid (show n1 = (Wp.varint v).length by rw [hl1]; simp)
    clear hown1 hl1
    go_wp2_with fail
    refine (H2.out _).mono ?_
    rintro e w2 ⟨A2, n2, cap2, rfl, hl2, hown2, hb2⟩
    have HB := Lib.hid (hb1.trans (hb2.mono hb1.size))
    have HM := Lib.hid (show n1 ≤ n2 by rw [HL1.out, hl2]; simpa using Wp.varint_mono v u (by omega))
    have HX := Lib.hid (show n2 ≤ 10 by rw [hl2]; simpa using (Wp.varint_len u).2)
    clear hown2 hb1 hb2 hl2
    go_wp2_with fail
    go_loopw [7, 8] (fun v x wr => ∃ (nn xx : Nat), v = .int .i64 (nn : Int) ∧ x = .int .u64 (xx : Int) ∧ xx < 18446744073709551616 ∧ Hid (nn + (if xx = 0 then 0 else (Wp.varint xx).length) = n1) ∧ nn ≤ 10 ∧ wr = w2) (fun _ x _ => (intOf x).toNat)
    case atStart => exact ⟨1, v / 128, rfl, by go_num, by omega, by rw [HL1.out]; exact first_group v hv, by omega, rfl⟩
    case round =>
      obtain ⟨nn, xx, rfl, rfl, hxx, HE, hnn, rfl⟩ := hrel
      by_cases h0 : xx = 0
      · subst h0
        have hn1 : nn = n1 := by have := HE.out; simpa using this
        subst hn1
        have hM := HM.out
        have hMi : (nn : Int) ≤ (n2 : Int) := by omega
        have HBD := Lib.hid (show Below w.heap.size w wr from HB.out)
        go_wp2_with fail
        refine (awake_any _).mono ?_
        rintro e w4 ⟨rfl, hb4⟩
        go_wp2
        go_ret
        exact ⟨rfl, on HBD.out hb4⟩
      · have hpos : (0 : Int) < (xx : Int) := by omega
        have HE2 := Lib.hid (next_group nn xx n1 h0 hxx HE.out)
        have hnn2 : nn + 1 ≤ 10 := by
          have h1 := HE2.out
          have h2 := HM.out
          have h3 := HX.out
          omega
        go_wp2
        go_roundw
        case rel => exact ⟨nn + 1, xx / 128, by go_num, by go_num, by omega, HE2.out, hnn2, by first | rfl | trivial⟩
        case measure => simp [intOf]; omega
  · have hi : ¬ (v : Int) < (u : Int) := by omega
    have H1 := Lib.hid (fun w' => putuint_any none 0 0 [] rfl u w' (Rd.nil _ _) hu (by decide))
    have H2 := Lib.hid (fun w' => putuint_any none 0 0 [] rfl v w' (Rd.nil _ _) hv (by decide))
    go_enter Try.func4, Try.ntmps4
    go_wp2_with fail
    refine (H1.out _).mono ?_
    rintro e w1 ⟨A1, n1, cap1, rfl, hl1, hown1, hb1⟩
    have HL1 := Lib.hid (show n1 = (Wp.varint u).length by rw [hl1]; simp)
    clear hown1 hl1
    go_wp2_with fail
    refine (H2.out _).mono ?_
    rintro e w2 ⟨A2, n2, cap2, rfl, hl2, hown2, hb2⟩
    have HB := Lib.hid (hb1.trans (hb2.mono hb1.size))
    have HM := Lib.hid (show n1 ≤ n2 by rw [HL1.out, hl2]; simpa using Wp.varint_mono u v (by omega))
    have HX := Lib.hid (show n2 ≤ 10 by rw [hl2]; simpa using (Wp.varint_len v).2)
    clear hown2 hb1 hb2 hl2
    go_wp2_with fail
    go_loopw [7, 8] (fun v x wr => ∃ (nn xx : Nat), v = .int .i64 (nn : Int) ∧ x = .int .u64 (xx : Int) ∧ xx < 18446744073709551616 ∧ Hid (nn + (if xx = 0 then 0 else (Wp.varint xx).length) = n1) ∧ nn ≤ 10 ∧ wr = w2) (fun _ x _ => (intOf x).toNat)
    case atStart => exact ⟨1, u / 128, rfl, by go_num, by omega, by rw [HL1.out]; exact first_group u hu, by omega, rfl⟩
    case round =>
      obtain ⟨nn, xx, rfl, rfl, hxx, HE, hnn, rfl⟩ := hrel
      by_cases h0 : xx = 0
      · subst h0
        have hn1 : nn = n1 := by have := HE.out; simpa using this
        subst hn1
        have hM := HM.out
        have hMi : (nn : Int) ≤ (n2 : Int) := by omega
        have HBD := Lib.hid (show Below w.heap.size w wr from HB.out)
        go_wp2_with fail
        refine (awake_any _).mono ?_
        rintro e w4 ⟨rfl, hb4⟩
        go_wp2
        go_ret
        exact ⟨rfl, on HBD.out hb4⟩
      · have hpos : (0 : Int) < (xx : Int) := by omega
        have HE2 := Lib.hid (next_group nn xx n1 h0 hxx HE.out)
        have hnn2 : nn + 1 ≤ 10 := by
          have h1 := HE2.out
          have h2 := HM.out
          have h3 := HX.out
          omega
        go_wp2
        go_roundw
        case rel => exact ⟨nn + 1, xx / 128, by go_num, by go_num, by omega, HE2.out, hnn2, by first | rfl | trivial⟩
        case measure => simp [intOf]; omega
theorem lengths_walk_int (u v : Int) (w : World) (hu : 0 ≤ u ∧ u ≤ 18446744073709551615) (hv : 0 ≤ v ∧ v ≤ 18446744073709551615) :
    Calls Try.prog 4 #[.int .u64 u, .int .u64 v] w fun e w' => e = .returned (.bool true) ∧ Below w.heap.size w w' := by
  obtain ⟨a, rfl⟩ := Int.eq_ofNat_of_zero_le hu.1
  obtain ⟨b, rfl⟩ := Int.eq_ofNat_of_zero_le hv.1
  exact lengths_walk a b w (by omega) (by omega)
end Go.Proofs.Ytfpealokldbabaa
