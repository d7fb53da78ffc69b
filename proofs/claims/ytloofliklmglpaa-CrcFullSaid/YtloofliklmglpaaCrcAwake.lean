/- The walk of the layer's awake: what the document fixes. -/
import Derived.Test.YtloofliklmglpaaCrcAll
import Derived.Lib.SlBytesConst
namespace Go.Proofs.Ytloofliklmglpaa
open Go.RowKit

theorem lit_rdm (w : World) (n : Nat) (hn : n = w.heap.size) (xs : List Value) (t : TypeId) (f : Nat × Nat) : Rd (w.alloc (.cells xs.toArray t f)) (some ⟨n, 0, none⟩) xs := by
  subst hn
  intro k u hk
  refine ⟨w.heap.size, 0, rfl, by simp, ?_⟩
  unfold World.cell?
  simp only [heap_alloc_new]
  simpa using hk
theorem conv_const (w : World) (C : Array Value) (n c : Nat) : (convert 22 22 (.slice (some ⟨w.heap.size, 0, none⟩) n c)).run Try.prog (w.alloc (.cells C 5)) = .ok (.slice (some ⟨w.heap.size, 0, none⟩) n c) (w.alloc (.cells C 5 (C.size, C.size + 1))) :=
  Lib.run_convert_bytes_const w 22 5 C n c Try.underlying22 Try.underlying5

set_option maxRecDepth 100000 in
set_option maxHeartbeats 3200000 in
theorem cawake_any (w : World) :
    Calls Try.prog 14 #[] w fun e w' => e = .returned (.bool true) ∧ Below w.heap.size w w' := by
  obtain ⟨i0, hi, hz0, hz1, hz2⟩ := info_parts info_u8
  have H1 := Lib.hid (fun b w hr => frame_any (some ⟨b, 0, none⟩) 9 9 [49, 50, 51, 52, 53, 54, 55, 56, 57] rfl (fun h => by cases h) w hr (by decide))
  rw [show Cr.fr [49, 50, 51, 52, 53, 54, 55, 56, 57] = ([9, 49, 50, 51, 52, 53, 54, 55, 56, 57, 203, 244, 57, 38], 0) by decide +kernel] at H1
  have H2 := Lib.hid (fun b w hr => open_any (some ⟨b, 0, none⟩) 6 6 [0, 0, 0, 0, 0, 120] rfl (Nat.le_refl _) w hr (by decide))
  rw [show Cr.opn [0, 0, 0, 0, 0, 120] = ([], 5, 0) by decide +kernel] at H2
  have H3 := Lib.hid (fun b w hr => open_any (some ⟨b, 0, none⟩) 5 5 [0, 0, 0, 0, 1] rfl (Nat.le_refl _) w hr (by decide))
  rw [show Cr.opn [0, 0, 0, 0, 1] = ([], 0, 15) by decide +kernel] at H3
  have H4 := Lib.hid (fun A cap w hc hr => all_any A 15 cap [9, 49, 50, 51, 52, 53, 54, 55, 56, 57, 203, 244, 57, 38, 9] rfl hc w hr (by decide))
  rw [show Cr.all [9, 49, 50, 51, 52, 53, 54, 55, 56, 57, 203, 244, 57, 38, 9] = ([[49, 50, 51, 52, 53, 54, 55, 56, 57]], 14) by decide +kernel] at H4
  have H5 := Lib.hid (fun b w hr => sum_any (some ⟨b, 0, none⟩) 9 9 [49, 50, 51, 52, 53, 54, 55, 56, 57] rfl w hr (by decide))
  rw [show Cr.sum [49, 50, 51, 52, 53, 54, 55, 56, 57] = 3421780262 by decide +kernel] at H5
  have H6 := Lib.hid (fun w => sum_any none 0 0 [] rfl w (Rd.nil _ _) (by decide))
  rw [show Cr.sum [] = 0 by decide +kernel] at H6
  have hcc := conv_const
  go_enter Try.func14, Try.ntmps14
  go_wp2_with fail
  refine (H1.out w.heap.size _ (lit_rdm w w.heap.size rfl (bv [49, 50, 51, 52, 53, 54, 55, 56, 57]) 5 _)).mono ?_
  rintro e w1 ⟨A1, n1, cap1, rfl, hn1, hown1, hb1⟩
  try simp only at hn1 hown1
  have HB1 := Lib.hid ((below_new w _).trans (hb1.mono (by simp)))
  have HX1 := Lib.hid (own_rd hown1)
  have HC1 := Lib.hid (fun hA : A1 = none => own_none hown1 hA)
  have hn1' : n1 = 14 := hn1
  subst hn1'
  clear hown1 hb1 hn1 H1
  go_wp2_with fail
  refine (H2.out w1.heap.size _ (lit_rdm w1 w1.heap.size rfl (bv [0, 0, 0, 0, 0, 120]) 5 _)).mono ?_
  rintro e w2 ⟨A2, n2, cap2, rfl, hn2, hown2, hb2⟩
  try simp only at hn2 hown2
  have HB2 := Lib.hid (on (below_new w1 _) hb2)
  have hn2' : n2 = 0 := hn2
  subst hn2'
  clear hown2 hb2 hn2 H2
  go_wp2_with fail
  refine (H3.out w2.heap.size _ (lit_rdm w2 w2.heap.size rfl (bv [0, 0, 0, 0, 1]) 5 _)).mono ?_
  rintro e w3 ⟨A3, n3, cap3, rfl, hn3, hown3, hb3⟩
  try simp only at hn3 hown3
  have HB3 := Lib.hid (on (below_new w2 _) hb3)
  clear hown3 hb3 hn3 H3
  have HX3 := Lib.hid (HX1.out.to (on HB2.out HB3.out))
  have hown0 := Lib.hid (World.ownsRow_lit (base := w3.heap.size) (e := 5) (size := 1) w3 #[] 0 (Nat.le_refl _) (by unfold maxLen; omega) rfl)
  go_wp2_with (first
    | (at_builtin; refine wpList_appN rfl _ _ 22 rfl w3.heap.size 5 i0 (.int .u8 0) 1 Try.underlying22 hi hz0 hz1 hz2 rfl _ 0 [] rfl hown0.out A1 14 cap1 (bv [9, 49, 50, 51, 52, 53, 54, 55, 56, 57, 203, 244, 57, 38]) rfl rfl HC1.out (HX3.out.to (below_new w3 _)) (bv_one _) (by unfold maxLen; omega) (by omega) (by simp) 14 rfl ?_; intro A4 cap4 w4 hcap4 hown4 hb4; have HO4 := Lib.hid hown4; have HB4 := Lib.hid ((below_new w3 _).trans hb4); have HS4 := Lib.hid hb4.size; clear hown4 hb4 hcap4)
    | (at_builtin; refine wpList_app1 rfl _ _ 22 rfl w3.heap.size 5 i0 (.int .u8 0) 1 Try.underlying22 hi hz0 hz1 hz2 rfl _ 14 _ rfl (HO4.out.alloc _) ⟨w4.heap.size, 0, none⟩ 1 (.int .u8 9) rfl (new0 _ _ _) rfl (by unfold maxLen; omega) (by omega) (by have := HB4.out.size; simp; omega) ?_; intro A5 cap5 w5 hcap5 hown5 hb5; have HO5 := Lib.hid hown5; have HB5 := Lib.hid ((HB4.out.trans (below_keep (below_new w4 _) HB4.out.size)).trans hb5); have HC5 := Lib.hid hcap5; clear hown5 hb5 hcap5))
  refine (H4.out A5 cap5 w5 HC5.out (own_rd HO5.out)).mono ?_
  rintro e w6 ⟨A6, n6, cap6, vs, rfl, hn6, hown6, hh6, hb6⟩
  try simp only at hn6
  have hn6' : n6 = 1 := hn6
  subst hn6'
  have HB6 := Lib.hid hb6
  obtain ⟨v0, hv0⟩ : ∃ v, vs[0]? = some v := ⟨_, List.getElem?_eq_getElem (by rw [hh6.1]; decide)⟩
  have HH := Lib.hid (hh6.2 0 v0 _ hv0 rfl)
  have HR6 := Lib.hid (own_rd hown6 0 v0 hv0)
  clear hown6 hb6 hh6 hn6
  obtain ⟨A7, n7, cap7, rfl, hn7, _, _, hr7⟩ := HH.out
  have HX7 := Lib.hid hr7
  clear HH hr7 hv0
  obtain ⟨b6, o6, rfl, hlt6, hc6⟩ := HR6.out
  go_wp2_with fail
  refine (H5.out w6.heap.size _ (lit_rdm w6 w6.heap.size rfl (bv [49, 50, 51, 52, 53, 54, 55, 56, 57]) 5 _)).mono ?_
  rintro e w7 ⟨rfl, hw7⟩
  have hb7 : Below w6.heap.size w6 w7 := by rw [← hw7]; exact below_new w6 _
  have HX8 := Lib.hid (HX7.out.to hb7)
  have hc7 : w7.cell? ⟨b6, o6, none⟩ = some (.slice A7 n7 cap7) := by
    have := (hb7.cell (p := ⟨b6, o6 + 0, none⟩) hlt6).trans hc6
    simpa using this
  have hcvb := conv_b (w := w7) A1 14 cap1 [9, 49, 50, 51, 52, 53, 54, 55, 56, 57, 203, 244, 57, 38] (HX3.out.to (on (on HB5.out HB6.out) hb7)) rfl
  have hcvc := conv_b (w := w7) A7 n7 cap7 [49, 50, 51, 52, 53, 54, 55, 56, 57] HX8.out hn7
  have HBZ := Lib.hid (on HB1.out (on (on (on (on HB2.out HB3.out) HB5.out) HB6.out) hb7))
  clear hw7 hb7 hc6 hlt6 hn7
  go_wp2_with fail
  refine (H6.out _).mono ?_
  rintro e w' ⟨rfl, rfl⟩
  go_wp2
  go_ret
  exact ⟨rfl, HBZ.out⟩
end Go.Proofs.Ytloofliklmglpaa
