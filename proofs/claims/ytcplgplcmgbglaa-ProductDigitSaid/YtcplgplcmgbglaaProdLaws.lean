/- The walks of the laws ProductCodes, ProductChecks, ProductFinds, ProductFits. -/
import Derived.Test.YtcplgplcmgbglaaProdAwake
import Derived.Deep.RegionWith
namespace Go.Proofs.Ytcplgplcmgbglaa
open Go.RowKit

theorem on {w w1 w' : World} (h : Below w.heap.size w w1) (h' : Below w1.heap.size w1 w') : Below w.heap.size w w' := h.trans (h'.mono h.size)

set_option maxHeartbeats 800000 in
theorem codes_walk (s : ByteArray) (w : World) :
    Calls Try.prog 3 #[.string s] w fun e w' => e = .returned (.bool true) ∧ Below w.heap.size w w' := by
  by_cases hs : s.size ≤ 100
  · have H1 := Lib.hid (digit_any s)
    have H2 := Lib.hid (rdigit_any s)
    have H3 := Lib.hid (code_any s)
    have H4 := Lib.hid (rcode_any s)
    generalize Pd.dgt s.data.toList = d at H1 H2
    generalize Pd.cod s.data.toList = c at H3 H4
    go_enter Try.func3, Try.ntmps3
    go_wp2_with fail
    refine (H1.out _).mono ?_
    rintro e w1 ⟨rfl, hb1⟩
    go_wp2_with fail
    refine (H2.out _).mono ?_
    rintro e w' ⟨rfl, rfl⟩
    go_wp2_with fail
    refine (H3.out _).mono ?_
    rintro e w2 ⟨rfl, hb2⟩
    go_wp2_with fail
    refine (H4.out _).mono ?_
    rintro e w' ⟨rfl, rfl⟩
    go_wp2_with fail
    refine (awake_any _).mono ?_
    rintro e w3 ⟨rfl, hb3⟩
    go_wp2
    go_ret
    exact ⟨rfl, on (on hb1 hb2) hb3⟩
  · go_enter Try.func3, Try.ntmps3
    go_wp2_with fail
    refine (awake_any _).mono ?_
    rintro e w3 ⟨rfl, hb3⟩
    go_wp2
    go_ret
    exact ⟨rfl, hb3⟩

set_option maxHeartbeats 800000 in
theorem checks_walk (A : Option Addr) (cap : Nat) (l : List Pd.Prod) (pa ma : Int) (w : World) (hP : Pd.Prods w A l) :
    Calls Try.prog 4 #[.slice A l.length cap, .int .i64 pa, .int .i64 ma] w fun e w' => e = .returned (.bool true) ∧ Below w.heap.size w w' := by
  have HP := Lib.hid hP
  have H1 := Lib.hid (large_any A cap l w hP)
  clear hP
  cases hl : Pd.largeB l with
  | true =>
    rw [hl] at H1
    clear hl
    go_enter Try.func4, Try.ntmps4
    go_wp2_with fail
    refine H1.out.mono ?_
    rintro e w1 ⟨rfl, hb1⟩
    go_wp2_with fail
    refine (awake_any _).mono ?_
    rintro e w3 ⟨rfl, hb3⟩
    go_wp2
    go_ret
    exact ⟨rfl, on hb1 hb3⟩
  | false =>
    rw [hl] at H1
    clear hl
    go_enter Try.func4, Try.ntmps4
    go_wp2_with fail
    refine H1.out.mono ?_
    rintro e w1 ⟨rfl, hb1⟩
    have hp1 := HP.out.below (Nat.le_refl _) hb1
    have H2 := Lib.hid (checkl_any A cap l pa ma w1 hp1)
    clear hp1
    have HB1 := Lib.hid hb1
    clear hb1
    go_wp2_with fail
    refine H2.out.mono ?_
    rintro e w2 ⟨rfl, hb2⟩
    have HB2 := Lib.hid (on HB1.out hb2)
    clear hb2
    have H3 := Lib.hid (rcheckl_any A cap l pa ma w2 (HP.out.below (Nat.le_refl _) HB2.out))
    go_wp2_with fail
    refine H3.out.mono ?_
    rintro e w3 ⟨rfl, hb3⟩
    generalize Pd.chkL l pa ma = c
    go_wp2_with fail
    refine (awake_any _).mono ?_
    rintro e w4 ⟨rfl, hb4⟩
    go_wp2
    go_ret
    exact ⟨rfl, on (on HB2.out hb3) hb4⟩

set_option maxHeartbeats 800000 in
theorem finds_walk (A : Option Addr) (cap : Nat) (l : List Pd.Prod) (c : ByteArray) (w : World) (hP : Pd.Prods w A l) :
    Calls Try.prog 5 #[.slice A l.length cap, .string c] w fun e w' => e = .returned (.bool true) ∧ Below w.heap.size w w' := by
  have HP := Lib.hid hP
  have H1 := Lib.hid (large_any A cap l w hP)
  clear hP
  cases hl : Pd.largeB l with
  | true =>
    rw [hl] at H1
    clear hl
    go_enter Try.func5, Try.ntmps5
    go_wp2_with fail
    refine H1.out.mono ?_
    rintro e w1 ⟨rfl, hb1⟩
    go_wp2_with fail
    refine (awake_any _).mono ?_
    rintro e w3 ⟨rfl, hb3⟩
    go_wp2
    go_ret
    exact ⟨rfl, on hb1 hb3⟩
  | false =>
    have hlen : l.length ≤ 9223372036854775807 := by
      unfold Pd.largeB at hl
      simp only [Bool.or_eq_false_iff, decide_eq_false_iff_not] at hl
      omega
    rw [hl] at H1
    clear hl
    by_cases hc : c.size ≤ 100
    · go_enter Try.func5, Try.ntmps5
      go_wp2_with fail
      refine H1.out.mono ?_
      rintro e w1 ⟨rfl, hb1⟩
      have HB1 := Lib.hid hb1
      clear hb1
      have H2 := Lib.hid (find_any A cap l c w1 (HP.out.below (Nat.le_refl _) HB1.out) hlen)
      generalize hf : Pd.findR (Pd.idx l c) = f at H2
      have HF := Lib.hid hf
      clear hf
      go_wp2_with fail
      refine H2.out.mono ?_
      rintro e w2 ⟨rfl, hb2⟩
      have HB2 := Lib.hid (on HB1.out hb2)
      clear hb2
      have H3 := Lib.hid (rfind_any A cap l c w2 (HP.out.below (Nat.le_refl _) HB2.out) hlen)
      rw [HF.out] at H3
      go_wp2_with fail
      refine H3.out.mono ?_
      rintro e w3 ⟨rfl, hb3⟩
      go_wp2_with fail
      refine (awake_any _).mono ?_
      rintro e w4 ⟨rfl, hb4⟩
      go_wp2
      go_ret
      exact ⟨rfl, on (on HB2.out hb3) hb4⟩
    · go_enter Try.func5, Try.ntmps5
      go_wp2_with fail
      refine H1.out.mono ?_
      rintro e w1 ⟨rfl, hb1⟩
      go_wp2_with fail
      refine (awake_any _).mono ?_
      rintro e w3 ⟨rfl, hb3⟩
      go_wp2
      go_ret
      exact ⟨rfl, on hb1 hb3⟩

set_option maxHeartbeats 800000 in
theorem fits_walk (p : Pd.Prod) (g : Int) (w : World) (h1 : -9223372036854775808 ≤ g) (h2 : g ≤ 9223372036854775807) (h3 : -9223372036854775808 ≤ p.grams) (h4 : p.grams ≤ 9223372036854775807) :
    Calls Try.prog 6 #[p.val, .int .i64 g] w fun e w' => e = .returned (.bool true) ∧ Below w.heap.size w w' := by
  have H1 := Lib.hid (fits_any p g h1 h2 h3 h4)
  have H2 := Lib.hid (rfits_any p g h1 h2 h3 h4)
  generalize Pd.fits p.grams g = f at H1 H2
  obtain ⟨code, producer, deposit, material, x⟩ := p
  unfold Pd.Prod.val Pd.Prod.obj at *
  simp only at *
  go_enter Try.func6, Try.ntmps6
  go_wp2_with fail
  go_region_with (first
    | (go_at_call 20; refine (H1.out _).mono ?_; rintro e w1 ⟨rfl, rfl⟩)
    | (go_at_call 21; refine (H2.out _).mono ?_; rintro e w2 ⟨rfl, hb2⟩)
    | (go_at_call 10; refine (awake_any _).mono ?_; rintro e w3 ⟨rfl, hb3⟩))
  all_goals
    go_wp2
    go_ret
    exact ⟨rfl, on (on ((on (below_new w _) (below_new _ _)).drew) hb2) hb3⟩
end Go.Proofs.Ytcplgplcmgbglaa
