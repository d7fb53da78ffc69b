/- few, and the chapter's examples: awake returns true. -/
import Derived.Test.YtaaoeiffpldjmaaJetPlanC
namespace Go.Proofs.Ytaaoeiffpldjmaa
open Go.RowKit
theorem lit_rdm (w : World) (n : Nat) (hn : n = w.heap.size) (xs : List Value) (t : TypeId) (f : Nat × Nat) : Rd (w.alloc (.cells xs.toArray t f)) (some ⟨n, 0, none⟩) xs := by
  subst hn
  intro k u hk
  refine ⟨w.heap.size, 0, rfl, by simp, ?_⟩
  unfold World.cell?
  simp only [heap_alloc_new]
  simpa using hk
theorem lit_winm (W : World) (n : Nat) (l : List Jt.Win) (hn : n = W.heap.size) (f : Nat × Nat) : Jt.Wins (W.alloc (.cells (Jt.cells l).toArray 44 f)) (some ⟨n, 0, none⟩) l := by
  subst hn
  intro k p hk
  obtain ⟨h0, h1⟩ := Jt.cells_at l k p hk
  refine ⟨W.heap.size, 0, rfl, by simp, ?_, ?_⟩
  all_goals
    unfold World.cell?
    simp only [heap_alloc_new, Nat.zero_add]
    simpa
/-- The valve lies in block b. -/
def VAt (w : World) (b : Nat) (d h r : Int) : Prop := w.cell? ⟨b, 0, none⟩ = some (.int .i64 d) ∧ w.cell? ⟨b, 1, none⟩ = some (.int .i64 h) ∧ w.cell? ⟨b, 2, none⟩ = some (.int .i64 r)
theorem VAt.below {w w' : World} {b B : Nat} {d h r : Int} (hv : VAt w b d h r) (hb : Below B w w') (hB : b < B) : VAt w' b d h r := by
  obtain ⟨c0, c1, c2⟩ := hv
  refine ⟨?_, ?_, ?_⟩
  all_goals (rw [hb.cell hB]; assumption)
theorem VAt.new (w : World) (d h r : Int) (t : TypeId) : VAt (w.alloc (.cells #[.int .i64 d, .int .i64 h, .int .i64 r] t)) w.heap.size d h r := by
  unfold VAt World.cell?
  rw [heap_alloc_new]
  simp

set_option maxRecDepth 100000 in
set_option maxHeartbeats 1600000 in
theorem few_any (A : Option Addr) (n cap : Nat) (A2 : Option Addr) (n2 cap2 : Nat) (w : World) :
    Calls Try.prog 10 #[.slice A n cap, .slice A2 n2 cap2] w fun e w' => e = .returned (.bool (decide (n ≤ 200 ∧ n2 ≤ 600))) ∧ w = w' := by
  by_cases h1 : n ≤ 200
  · have h1' : (n : Int) ≤ 200 := by omega
    by_cases h2 : n2 ≤ 600
    · have h2' : (n2 : Int) ≤ 600 := by omega
      go_enter Try.func10, Try.ntmps10
      go_wp2
      go_ret
      exact ⟨ret_bool (by simp [h1, h2]), rfl⟩
    · have h2' : ¬ (n2 : Int) ≤ 600 := by omega
      go_enter Try.func10, Try.ntmps10
      go_wp2
      go_ret
      exact ⟨ret_bool (by simp), rfl⟩
  · have h1' : ¬ (n : Int) ≤ 200 := by omega
    go_enter Try.func10, Try.ntmps10
    go_wp2
    go_ret
    exact ⟨ret_bool (by simp), rfl⟩

set_option maxRecDepth 100000 in
set_option maxHeartbeats 6400000 in
theorem awake_any (w : World) :
    Calls Try.prog 11 #[] w fun e w' => e = .returned (.bool true) ∧ Below w.heap.size w w' := by
  have H1 := Lib.hid (fun b w hr => plan_any 10 3 4 (some ⟨b, 0, none⟩) 3 3 [0, 5, 15] rfl w hr)
  rw [show Jt.plan ⟨10, 3, 4⟩ [0, 5, 15] = ([(10, 18), (25, 28)], 0) by decide] at H1
  have H2 := Lib.hid (fun A cap w hr => steps_any A 2 cap [(10, 18), (25, 28)] rfl w hr)
  rw [show Jt.steps [(10, 18), (25, 28)] = (11, 0) by decide] at H2
  have H3 := Lib.hid (fun A cap b w hw hr => hits_any 10 3 4 A 2 cap [(10, 18), (25, 28)] rfl (some ⟨b, 0, none⟩) 3 3 [3, 9, 16] rfl w hw hr (by decide))
  rw [show Jt.hits [(10, 18), (25, 28)] ⟨10, 3, 4⟩ [3, 9, 16] = ([0, 2], 0) by decide] at H3
  have H4 := Lib.hid (fun A cap b w hw hr => same_any A 2 cap [(10, 18), (25, 28)] rfl (some ⟨b, 0, none⟩) 2 2 [(10, 18), (25, 28)] rfl w hw hr (by decide))
  rw [show decide (([(10, 18), (25, 28)] : List Jt.Win) = [(10, 18), (25, 28)]) = true by decide] at H4
  have H5 := Lib.hid (fun A cap b w hw hr => ints_any A 2 cap [0, 2] rfl (some ⟨b, 0, none⟩) 2 2 [0, 2] rfl w hw hr (by decide))
  rw [show decide (([0, 2] : List Int) = [0, 2]) = true by decide] at H5
  have H6 := Lib.hid (fun A cap b w hw hr => covers_any 10 3 4 A 2 cap [(10, 18), (25, 28)] rfl (some ⟨b, 0, none⟩) 2 2 [15, 0] rfl w hw hr (by decide) (by decide))
  rw [show Jt.covers [(10, 18), (25, 28)] ⟨10, 3, 4⟩ [15, 0] = true by decide] at H6
  have H7 := Lib.hid (fun A cap b w hw hr => covers_any 10 3 4 A 2 cap [(10, 18), (25, 28)] rfl (some ⟨b, 0, none⟩) 1 1 [6] rfl w hw hr (by decide) (by decide))
  rw [show Jt.covers [(10, 18), (25, 28)] ⟨10, 3, 4⟩ [6] = false by decide] at H7
  have H8 := Lib.hid (fun A cap w hw => rests_any 10 3 4 A 2 cap [(10, 18), (25, 28)] rfl w hw (by decide))
  rw [show Jt.rests [(10, 18), (25, 28)] ⟨10, 3, 4⟩ = true by decide +kernel] at H8
  go_enter Try.func11, Try.ntmps11
  go_wp2_with fail
  have hv0 := VAt.new w 10 3 4 23
  have hs0 : w.heap.size < (w.alloc (.cells #[.int .i64 10, .int .i64 3, .int .i64 4] 23)).heap.size := by simp
  refine (H1.out _ _ (lit_rdm (w.alloc (.cells #[.int .i64 10, .int .i64 3, .int .i64 4] 23)) (w.heap.size + 1) (by simp) (iv [0, 5, 15]) 3 _)).mono ?_
  rintro e w1 ⟨A1, n1, cap1, rfl, hn1, hw1, hb1⟩
  simp only at hw1
  have hn1' : n1 = 2 := hn1
  subst hn1'
  have hb1' : Below (w.alloc (.cells #[.int .i64 10, .int .i64 3, .int .i64 4] 23)).heap.size (w.alloc (.cells #[.int .i64 10, .int .i64 3, .int .i64 4] 23)) w1 := on (below_new _ _) hb1
  have HV1 := Lib.hid (hv0.below hb1' hs0)
  have hs1 : w.heap.size < w1.heap.size := by have := hb1'.size; omega
  have HB1 := Lib.hid (on (below_new w _) hb1')
  have HW1 := Lib.hid hw1
  clear hw1 hb1 hb1' hn1 hv0 hs0
  go_wp2_with fail
  refine (H2.out A1 cap1 w1 HW1.out).mono ?_
  rintro e w2 ⟨rfl, hb2⟩
  have HV2 := Lib.hid (HV1.out.below hb2 hs1)
  have hs2 : w.heap.size < w2.heap.size := by have := hb2.size; omega
  have HB2 := Lib.hid (on HB1.out hb2)
  have HW2 := Lib.hid (HW1.out.to hb2)
  clear hb2
  obtain ⟨c0, c1, c2⟩ := HV2.out
  go_wp2_with fail
  refine (H3.out A1 cap1 w2.heap.size _ (HW2.out.to (below_new w2 _)) (lit_rdm w2 w2.heap.size rfl (iv [3, 9, 16]) 3 _)).mono ?_
  rintro e w3 ⟨A3, n3, cap3, rfl, hn3, hr3, hb3⟩
  simp only at hr3
  have hn3' : n3 = 2 := hn3
  subst hn3'
  have hb3' : Below w2.heap.size w2 w3 := on (below_new _ _) hb3
  have HV3 := Lib.hid (HV2.out.below hb3' hs2)
  have hs3 : w.heap.size < w3.heap.size := by have := hb3'.size; omega
  have HB3 := Lib.hid (on HB2.out hb3')
  have HW3 := Lib.hid (HW2.out.to hb3')
  have HR3 := Lib.hid hr3
  clear hb3 hb3' hr3 hn3 c0 c1 c2
  go_wp2_with fail
  refine (H4.out A1 cap1 w3.heap.size _ (HW3.out.to (below_new w3 _)) (lit_winm w3 w3.heap.size [(10, 18), (25, 28)] rfl _)).mono ?_
  rintro e w4 ⟨rfl, hb4⟩
  have hb4' : Below w3.heap.size w3 w4 := on (below_new _ _) hb4
  have HV4 := Lib.hid (HV3.out.below hb4' hs3)
  have hs4 : w.heap.size < w4.heap.size := by have := hb4'.size; omega
  have HB4 := Lib.hid (on HB3.out hb4')
  have HW4 := Lib.hid (HW3.out.to hb4')
  have HR4 := Lib.hid (HR3.out.to hb4')
  clear hb4 hb4'
  go_wp2_with fail
  refine (H5.out A3 cap3 w4.heap.size _ (HR4.out.to (below_new w4 _)) (lit_rdm w4 w4.heap.size rfl (iv [0, 2]) 3 _)).mono ?_
  rintro e w5 ⟨rfl, hb5⟩
  have hb5' : Below w4.heap.size w4 w5 := on (below_new _ _) hb5
  have HV5 := Lib.hid (HV4.out.below hb5' hs4)
  have hs5 : w.heap.size < w5.heap.size := by have := hb5'.size; omega
  have HB5 := Lib.hid (on HB4.out hb5')
  have HW5 := Lib.hid (HW4.out.to hb5')
  clear hb5 hb5'
  obtain ⟨c0, c1, c2⟩ := HV5.out
  go_wp2_with fail
  refine (H6.out A1 cap1 w5.heap.size _ (HW5.out.to (below_new w5 _)) (lit_rdm w5 w5.heap.size rfl (iv [15, 0]) 3 _)).mono ?_
  rintro e w6 ⟨rfl, hb6⟩
  have hb6' : Below w5.heap.size w5 w6 := on (below_new _ _) hb6
  have HV6 := Lib.hid (HV5.out.below hb6' hs5)
  have hs6 : w.heap.size < w6.heap.size := by have := hb6'.size; omega
  have HB6 := Lib.hid (on HB5.out hb6')
  have HW6 := Lib.hid (HW5.out.to hb6')
  clear hb6 hb6' c0 c1 c2
  obtain ⟨c0, c1, c2⟩ := HV6.out
  go_wp2_with fail
  refine (H7.out A1 cap1 w6.heap.size _ (HW6.out.to (below_new w6 _)) (lit_rdm w6 w6.heap.size rfl (iv [6]) 3 _)).mono ?_
  rintro e w7 ⟨rfl, hb7⟩
  have hb7' : Below w6.heap.size w6 w7 := on (below_new _ _) hb7
  have HV7 := Lib.hid (HV6.out.below hb7' hs6)
  have HB7 := Lib.hid (on HB6.out hb7')
  have HW7 := Lib.hid (HW6.out.to hb7')
  clear hb7 hb7' c0 c1 c2
  obtain ⟨c0, c1, c2⟩ := HV7.out
  go_wp2_with fail
  refine (H8.out A1 cap1 w7 HW7.out).mono ?_
  rintro e w8 ⟨rfl, hb8⟩
  have HB8 := Lib.hid (on HB7.out hb8)
  clear hb8 c0 c1 c2
  go_wp2
  go_ret
  exact ⟨rfl, HB8.out⟩
end Go.Proofs.Ytaaoeiffpldjmaa
