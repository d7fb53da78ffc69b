/- The walks of small and awake. -/
import Derived.Test.YtfpealokldbabaaWireRefC
namespace Go.Proofs.Ytfpealokldbabaa
open Go.RowKit

theorem small_yes (A : Option Addr) (n cap : Nat) (s : ByteArray) (A2 : Option Addr) (n2 cap2 : Nat) (w : World) (h1 : n ≤ 5000) (h2 : s.size ≤ 5000) (h3 : n2 ≤ 5000) :
    Calls Try.prog 11 #[.slice A n cap, .string s, .slice A2 n2 cap2] w fun e w' => e = .returned (.bool true) ∧ w = w' := by
  have k1 : (n : Int) ≤ 5000 := by omega
  have k2 : (s.size : Int) ≤ 5000 := by omega
  have k3 : (n2 : Int) ≤ 5000 := by omega
  clear h1 h2 h3
  go_enter Try.func11, Try.ntmps11
  go_wp2
  go_ret
  exact ⟨rfl, rfl⟩
theorem small_no (A : Option Addr) (n cap : Nat) (s : ByteArray) (A2 : Option Addr) (n2 cap2 : Nat) (w : World) (h : 5000 < n ∨ 5000 < s.size ∨ 5000 < n2) :
    Calls Try.prog 11 #[.slice A n cap, .string s, .slice A2 n2 cap2] w fun e w' => e = .returned (.bool false) ∧ w = w' := by
  by_cases h1 : n ≤ 5000
  · have k1 : (n : Int) ≤ 5000 := by omega
    by_cases h2 : s.size ≤ 5000
    · have k2 : (s.size : Int) ≤ 5000 := by omega
      have k3 : (5000 : Int) < (n2 : Int) := by omega
      clear h h1 h2
      go_enter Try.func11, Try.ntmps11
      go_wp2
      go_ret
      exact ⟨ret_bool (decide_eq_false (by omega)), rfl⟩
    · have k2 : (5000 : Int) < (s.size : Int) := by omega
      clear h h1 h2
      go_enter Try.func11, Try.ntmps11
      go_wp2
      go_ret
      exact ⟨rfl, rfl⟩
  · have k1 : (5000 : Int) < (n : Int) := by omega
    clear h h1
    go_enter Try.func11, Try.ntmps11
    go_wp2
    go_ret
    exact ⟨rfl, rfl⟩

/-- A slice literal, as a slice that reads. -/
theorem lit_rd (w : World) (n : Nat) (hn : n = w.heap.size) (xs : List Value) (t : TypeId) : Rd (w.alloc (.cells xs.toArray t)) (some ⟨n, 0, none⟩) xs := by
  subst hn
  intro k u hk
  refine ⟨w.heap.size, 0, rfl, by simp, ?_⟩
  unfold World.cell?
  simp only
  rw [heap_alloc_new]
  simpa using hk

theorem conv_b {w : World} (A : Option Addr) (n cap : Nat) (l : List UInt8) (h : Rd w A (bv l)) (hn : n = l.length) : (convert 22 9 (.slice A n cap)).run Try.prog w = .ok (.string ⟨l.toArray⟩) w :=
  conv_rd 22 9 5 A cap l Try.underlying22 Try.underlying5 Try.underlying9 h n hn

theorem toList_mk (l : List UInt8) : (ByteArray.mk l.toArray).data.toList = l := rfl

set_option maxRecDepth 100000 in
set_option maxHeartbeats 1600000 in
theorem awake_any (w : World) :
    Calls Try.prog 12 #[] w fun e w' => e = .returned (.bool true) ∧ Below w.heap.size w w' := by
  have H1 := Lib.hid (takeuint_any · 3 3 [172, 2, 9] rfl)
  rw [show Wp.takeU [172, 2, 9] = (300, 2, 0) by decide +kernel] at H1
  have H2 := Lib.hid (takeint_any · 2 2 [129, 1] rfl)
  rw [show Wp.takeI [129, 1] = (-65, 2, 0) by decide +kernel] at H2
  have H3 := Lib.hid (taketext_any · 3 3 [2, 97, 98] rfl (by omega) 2 (by omega) (by omega))
  rw [show Wp.takeT [2, 97, 98] 2 = ([97, 98], 3, 0) by decide +kernel] at H3
  have H4 := Lib.hid (takelist_any · 3 3 [2, 10, 1] rfl (by omega) 5 (by omega) (by omega))
  rw [show Wp.takeN [2, 10, 1] 5 = ([5, -1], 3, 0) by decide +kernel] at H4
  have H5 := Lib.hid (fun w => putuint_any none 0 0 [] rfl 300 w (Rd.nil _ _) (by omega) (by simp))
  rw [show [] ++ Wp.varint 300 = [172, 2] by decide +kernel] at H5
  go_enter Try.func12, Try.ntmps12
  go_wp2_with fail
  refine (H1.out _ _ (lit_rd w w.heap.size rfl (bv [172, 2, 9]) 5) (by decide)).mono ?_
  rintro e w' ⟨rfl, rfl⟩
  go_wp2_with fail
  refine (H2.out _ _ (lit_rd _ (w.heap.size + 1) (by simp) (bv [129, 1]) 5) (by decide)).mono ?_
  rintro e w' ⟨rfl, rfl⟩
  go_wp2_with fail
  refine (H3.out _ _ (lit_rd _ (w.heap.size + 1 + 1) (by simp) (bv [2, 97, 98]) 5) (by decide)).mono ?_
  rintro e w' ⟨rfl, rfl⟩
  go_wp2_with fail
  refine (H4.out _ _ (lit_rd _ (w.heap.size + 1 + 1 + 1) (by simp) (bv [2, 10, 1]) 5) (by decide)).mono ?_
  rintro e w1 ⟨A1, n1, cap1, rfl, hn1, hown1, hb1⟩
  simp only at hn1 hown1
  have hb1' := ((((below_new w _).trans ((below_new _ _).mono (by simp))).trans ((below_new _ _).mono (by simp; omega))).trans ((below_new _ _).mono (by simp; omega))).trans (hb1.mono (by simp; omega))
  have HB1 := Lib.hid hb1'
  have HO1 := Lib.hid hown1
  subst hn1
  clear hown1 hb1 hb1'
  go_wp2_with fail
  refine (H5.out _).mono ?_
  rintro e w2 ⟨A2, n2, cap2, rfl, hn2, hown2, hb2⟩
  have hcv := conv_b A2 n2 cap2 _ (own_rd hown2) hn2
  have HB2 := Lib.hid hb2
  clear hown2 hb2 hn2
  go_wp2_with fail
  have H6 := same_any A1 2 cap1 [5, -1] rfl (some ⟨w2.heap.size, 0, none⟩) 2 2 [5, -1] rfl (w2.alloc (.cells #[.int .i64 5, .int .i64 (-1)] 3)) ((own_rd HO1.out).below (Nat.le_refl _) (on HB2.out (below_new w2 _))) (lit_rd w2 w2.heap.size rfl (iv [5, -1]) 3) (by decide)
  rw [show decide (([5, -1] : List Int) = [5, -1]) = true by decide] at H6
  refine H6.mono ?_
  rintro e w3 ⟨rfl, hb3⟩
  have HB3 := Lib.hid ((HB1.out.trans (HB2.out.mono HB1.out.size)).trans ((on (below_new w2 _) hb3).mono (by have := HB1.out.size; have := HB2.out.size; omega)))
  clear hb3
  go_wp2
  go_ret
  exact ⟨rfl, HB3.out⟩
end Go.Proofs.Ytfpealokldbabaa
