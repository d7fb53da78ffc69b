/- The chapter's examples: awake returns true. -/
import Derived.Test.YtcpdfgckfefboaaJnRec
import Derived.Test.YtcpdfgckfefboaaJnAwakeP
namespace Go.Proofs.Ytcpdfgckfefboaa
open Go.RowKit
theorem lit_rdm (w : World) (n : Nat) (hn : n = w.heap.size) (xs : List Value) (t : TypeId) (f : Nat × Nat) : Rd (w.alloc (.cells xs.toArray t f)) (some ⟨n, 0, none⟩) xs := by
  subst hn
  intro k u hk
  refine ⟨w.heap.size, 0, rfl, by simp, ?_⟩
  unfold World.cell?
  simp only [heap_alloc_new]
  simpa using hk
/-- An event lies in block b. -/
structure EvAt (w : World) (b : Nat) (x0 x1 x2 x3 x4 x5 : Int) (A : Option Addr) (n cap : Nat) : Prop where
  c0 : w.cell? ⟨b, 0, none⟩ = some (.int .i64 x0)
  c1 : w.cell? ⟨b, 1, none⟩ = some (.int .i64 x1)
  c2 : w.cell? ⟨b, 2, none⟩ = some (.int .i64 x2)
  c3 : w.cell? ⟨b, 3, none⟩ = some (.int .i64 x3)
  c4 : w.cell? ⟨b, 4, none⟩ = some (.int .i64 x4)
  c5 : w.cell? ⟨b, 5, none⟩ = some (.int .i64 x5)
  c6 : w.cell? ⟨b, 6, none⟩ = some (.slice A n cap)
  lt : b < w.heap.size
theorem EvAt.to {w w' : World} {b : Nat} {x0 x1 x2 x3 x4 x5 : Int} {A : Option Addr} {n cap : Nat} (h : EvAt w b x0 x1 x2 x3 x4 x5 A n cap) (hb : Below w.heap.size w w') : EvAt w' b x0 x1 x2 x3 x4 x5 A n cap := by
  have hc : ∀ j, w'.cell? ⟨b, j, none⟩ = w.cell? ⟨b, j, none⟩ := fun j => hb.cell (p := ⟨b, j, none⟩) h.lt
  exact ⟨(hc _).trans h.c0, (hc _).trans h.c1, (hc _).trans h.c2, (hc _).trans h.c3, (hc _).trans h.c4, (hc _).trans h.c5, (hc _).trans h.c6, Nat.lt_of_lt_of_le h.lt hb.size⟩
theorem EvAt.new (w : World) (x0 x1 x2 x3 x4 x5 : Int) (A : Option Addr) (n cap : Nat) (t : TypeId) (f : Nat × Nat) : EvAt (w.alloc (.cells #[.int .i64 x0, .int .i64 x1, .int .i64 x2, .int .i64 x3, .int .i64 x4, .int .i64 x5, .slice A n cap] t f)) w.heap.size x0 x1 x2 x3 x4 x5 A n cap := by
  constructor
  all_goals first | (simp; done) | (unfold World.cell?; rw [heap_alloc_new]; simp)
theorem EvAt.evs {w : World} {b : Nat} {x0 x1 x2 x3 x4 x5 : Int} {A : Option Addr} {n cap : Nat} {m : List Int} (h : EvAt w b x0 x1 x2 x3 x4 x5 A n cap) (hn : n = m.length) (hc : A = none → cap = 0) (hr : Rd w A (iv m)) : Jn.Evs w (some ⟨b, 0, none⟩) [⟨x0, x1, x2, x3, x4, x5, m⟩] := by
  intro k e hk
  have hk0 : k = 0 := by
    have := (List.getElem?_eq_some_iff.1 hk).1
    simpa using this
  subst hk0
  simp at hk
  subst hk
  refine ⟨b, 0, rfl, h.lt, A, n, cap, ?_, ?_, ?_, ?_, ?_, ?_, ?_, hn, hc, hr⟩
  · exact h.c0
  · exact h.c1
  · exact h.c2
  · exact h.c3
  · exact h.c4
  · exact h.c5
  · exact h.c6

set_option maxRecDepth 100000 in
set_option maxHeartbeats 12800000 in
theorem awake_any (w : World) :
    Calls Try.prog 12 #[] w fun e w' => e = .returned (.bool true) ∧ Below w.heap.size w w' := by
  have H1 := Lib.hid (fun w => put_any Jn.e0 none 0 0 rfl w (Rd.nil _ _) (by decide))
  rw [Jn.ex_put] at H1
  have H2 := Lib.hid (fun A cap w hc h0 hr => get_any A 8 cap [6, 200, 1, 14, 0, 0, 0, 0] rfl hc h0 w hr (by decide))
  rw [Jn.ex_get] at H2
  have H3 := Lib.hid (fun w => append_any none 0 0 [] rfl (fun _ => rfl) Jn.e0 none 0 0 rfl w (Rd.nil _ _) (Rd.nil _ _) (by decide) (by decide))
  rw [Jn.ex_app] at H3
  have H4 := Lib.hid (fun A cap w h0 hr => append_any A 13 cap Jn.j0 Jn.ex_len.symm h0 Jn.e0 none 0 0 rfl w hr (Rd.nil _ _) (by decide) (by decide))
  rw [Jn.ex_app2] at H4
  have H5 := Lib.hid (fun A cap w hc hr => recover_any A 25 cap ((Jn.j0 ++ Jn.j0).take 25) (by decide) hc w hr (by decide))
  rw [Jn.ex_rec] at H5
  have H6 := Lib.hid (fun b w hr => get_any (some ⟨b, 0, none⟩) 7 7 [6, 200, 1, 14, 0, 0, 0] rfl (Nat.le_refl _) (fun h => by cases h) w hr (by decide))
  rw [Jn.ex_short] at H6
  have H7 := Lib.hid (fun b w hr => get_any (some ⟨b, 0, none⟩) 9 9 [6, 200, 1, 14, 0, 0, 0, 0, 0] rfl (Nat.le_refl _) (fun h => by cases h) w hr (by decide))
  rw [Jn.ex_long] at H7
  have H8 := Lib.hid (fun b w hr => get_any (some ⟨b, 0, none⟩) 7 7 [36, 0, 0, 0, 0, 0, 0] rfl (Nat.le_refl _) (fun h => by cases h) w hr (by decide))
  rw [Jn.ex_kind] at H8
  have H9 := Lib.hid (fun A cap b w hr hr2 => sameb_any A 8 cap [6, 200, 1, 14, 0, 0, 0, 0] rfl (some ⟨b, 0, none⟩) 8 8 [6, 200, 1, 14, 0, 0, 0, 0] rfl w hr hr2)
  rw [show decide (([6, 200, 1, 14, 0, 0, 0, 0] : List UInt8) = [6, 200, 1, 14, 0, 0, 0, 0]) = true by decide] at H9
  have H10 := Lib.hid (fun A cap w hr => sameone_any Jn.e0 A 0 cap rfl Jn.e0 none 0 0 rfl w hr (Rd.nil _ _) (by decide))
  rw [show decide (Jn.e0 = Jn.e0) = true by decide] at H10
  have H11 := Lib.hid (fun A cap b w hr hr2 => sames_any A 1 cap [Jn.e0] rfl (some ⟨b, 0, none⟩) 1 1 [Jn.e0] rfl w hr hr2 (by decide) (by decide))
  rw [show decide (([Jn.e0] : List Jn.Ev) = [Jn.e0]) = true by decide] at H11
  have H12 := Lib.hid (fun w => check_any Jn.e0 none 0 0 rfl w (Rd.nil _ _) (by decide))
  rw [Jn.ex_check] at H12
  unfold Jn.Ev.val Jn.e0 at H1 H3 H4 H10 H12
  simp only at H1 H3 H4 H10 H12
  have HLJ : Bx ((Jn.j0 ++ Jn.j0).length = 26) := ⟨by decide⟩
  have HL13 : Bx (Jn.j0.length = 13) := ⟨Jn.ex_len⟩
  generalize Jn.j0 = jj at H3 H4 H5 HLJ HL13
  go_enter Try.func12, Try.ntmps12
  go_wp2_with fail
  refine (H1.out _).mono ?_
  rintro e w1 ⟨A1, n1, cap1, rfl, hn1, hcap1, hc1, hr1, hb1⟩
  have hn1' : n1 = 8 := hn1
  subst hn1'
  try simp only at hr1
  have HE1 : Bx (EvAt w1 w.heap.size 3 100 7 0 0 0 none 0 0) := ⟨(EvAt.new w 3 100 7 0 0 0 none 0 0 35 _).to hb1⟩
  have HB1 : Bx (Below w.heap.size w w1) := ⟨on (below_new w _) hb1⟩
  have HR1 : Bx (Rd w1 A1 (bv [6, 200, 1, 14, 0, 0, 0, 0])) := ⟨hr1⟩
  have HC1 : Bx (A1 = none → cap1 = 0) := ⟨hc1⟩
  clear hr1 hb1 hn1 hc1
  go_wp2_with fail
  refine (H2.out A1 cap1 w1 hcap1 HC1.out HR1.out).mono ?_
  rintro e w2 ⟨A2, n2, cap2, rfl, hn2, hc2, hr2, _, hb2⟩
  have hn2' : n2 = 0 := hn2
  subst hn2'
  unfold Jn.Ev.val Jn.e0
  simp only at hr2 ⊢
  have HN2 := Lib.hid (below_new w2 (.cells #[.int .i64 3, .int .i64 100, .int .i64 7, .int .i64 0, .int .i64 0, .int .i64 0, .slice A2 0 cap2] 35))
  have HE2 : Bx (EvAt (w2.alloc (.cells #[.int .i64 3, .int .i64 100, .int .i64 7, .int .i64 0, .int .i64 0, .int .i64 0, .slice A2 0 cap2] 35)) w2.heap.size 3 100 7 0 0 0 A2 0 cap2) := ⟨EvAt.new w2 3 100 7 0 0 0 A2 0 cap2 _ _⟩
  have HB2 : Bx (Below w1.heap.size w1 (w2.alloc (.cells #[.int .i64 3, .int .i64 100, .int .i64 7, .int .i64 0, .int .i64 0, .int .i64 0, .slice A2 0 cap2] 35))) := ⟨on hb2 HN2.out⟩
  have HE12 : Bx (EvAt (w2.alloc (.cells #[.int .i64 3, .int .i64 100, .int .i64 7, .int .i64 0, .int .i64 0, .int .i64 0, .slice A2 0 cap2] 35)) w.heap.size 3 100 7 0 0 0 none 0 0) := ⟨HE1.out.to HB2.out⟩
  clear hr2 hb2 hn2 hc2 HN2
  obtain ⟨c0, c1, c2, c3, c4, c5, c6, _⟩ := HE12.out
  go_wp2_with fail
  refine (H3.out _).mono ?_
  rintro e w3 ⟨A3, n3, cap3, rfl, hn3, hcap3, hc3, hr3, hb3⟩
  try simp only at hr3 hn3
  have hn3' : n3 = 13 := by rw [HL13.out] at hn3; exact hn3
  subst hn3'
  have HB3 : Bx (Below w1.heap.size w1 w3) := ⟨on HB2.out hb3⟩
  have HE13 : Bx (EvAt w3 w.heap.size 3 100 7 0 0 0 none 0 0) := ⟨HE12.out.to hb3⟩
  have HE23 : Bx (EvAt w3 w2.heap.size 3 100 7 0 0 0 A2 0 cap2) := ⟨HE2.out.to hb3⟩
  have HR3 : Bx (Rd w3 A3 (bv jj)) := ⟨hr3⟩
  have HC3 : Bx (A3 = none → cap3 = 0) := ⟨hc3⟩
  clear hr3 hb3 hn3 hc3 c0 c1 c2 c3 c4 c5 c6 hcap3
  obtain ⟨c0, c1, c2, c3, c4, c5, c6, _⟩ := HE13.out
  go_wp2_with fail
  refine (H4.out A3 cap3 w3 HC3.out HR3.out).mono ?_
  rintro e w4 ⟨A4, n4, cap4, rfl, hn4, hcap4, hc4, hr4, hb4⟩
  try simp only at hr4 hn4
  have hn4' : n4 = 26 := by rw [HLJ.out] at hn4; exact hn4
  subst hn4'
  have HB4 : Bx (Below w1.heap.size w1 w4) := ⟨on HB3.out hb4⟩
  have HE14 : Bx (EvAt w4 w.heap.size 3 100 7 0 0 0 none 0 0) := ⟨HE13.out.to hb4⟩
  have HE24 : Bx (EvAt w4 w2.heap.size 3 100 7 0 0 0 A2 0 cap2) := ⟨HE23.out.to hb4⟩
  have HR4 : Bx (Rd w4 A4 (bv ((jj ++ jj).take 25))) := ⟨by rw [bv_take]; exact hr4.take 25⟩
  have hcap5 : (25 : Int) ≤ (cap4 : Int) := by omega
  have hcap6 : 25 ≤ cap4 := by omega
  clear hr4 hb4 hn4 hc4 c0 c1 c2 c3 c4 c5 c6
  go_wp2_with fail
  refine (H5.out A4 cap4 w4 hcap6 HR4.out).mono ?_
  rintro e w5 ⟨A5, n5, cap5, L5, rfl, hn5, hL5, ho5, hg5, hb5⟩
  try simp only at hn5 hL5
  have hn5' : n5 = 1 := hn5
  subst hn5'
  have HB5 : Bx (Below w1.heap.size w1 w5) := ⟨on HB4.out hb5⟩
  have HE15 : Bx (EvAt w5 w.heap.size 3 100 7 0 0 0 none 0 0) := ⟨HE14.out.to hb5⟩
  have HE25 : Bx (EvAt w5 w2.heap.size 3 100 7 0 0 0 A2 0 cap2) := ⟨HE24.out.to hb5⟩
  have HV5 : Bx (Jn.Evs w5 A5 [Jn.e0]) := ⟨by have := Jn.own7_evs ho5 hg5; rw [hL5] at this; exact this⟩
  clear ho5 hg5 hb5 hn5 hL5 hcap5 hcap6 hcap4
  go_wp2_with fail
  refine (H6.out w5.heap.size _ (lit_rdm w5 w5.heap.size (by simp) (bv [6, 200, 1, 14, 0, 0, 0]) 5 _)).mono ?_
  rintro e w6 ⟨A6, n6, cap6, rfl, hn6, hc6, hr6, _, hb6⟩
  have hn6' : n6 = 0 := hn6
  subst hn6'
  unfold Jn.Ev.val Jn.zero
  simp only
  have hbz : Below w5.heap.size w5 (w6.alloc (.cells #[.int .i64 0, .int .i64 0, .int .i64 0, .int .i64 0, .int .i64 0, .int .i64 0, .slice A6 0 cap6] 35)) := on (on (below_new w5 _) hb6) (below_new w6 _)
  have HB6 : Bx (Below w1.heap.size w1 (w6.alloc (.cells #[.int .i64 0, .int .i64 0, .int .i64 0, .int .i64 0, .int .i64 0, .int .i64 0, .slice A6 0 cap6] 35))) := ⟨on HB5.out hbz⟩
  have HE16 : Bx (EvAt (w6.alloc (.cells #[.int .i64 0, .int .i64 0, .int .i64 0, .int .i64 0, .int .i64 0, .int .i64 0, .slice A6 0 cap6] 35)) w.heap.size 3 100 7 0 0 0 none 0 0) := ⟨HE15.out.to hbz⟩
  have HE26 : Bx (EvAt (w6.alloc (.cells #[.int .i64 0, .int .i64 0, .int .i64 0, .int .i64 0, .int .i64 0, .int .i64 0, .slice A6 0 cap6] 35)) w2.heap.size 3 100 7 0 0 0 A2 0 cap2) := ⟨HE25.out.to hbz⟩
  have HV6 : Bx (Jn.Evs (w6.alloc (.cells #[.int .i64 0, .int .i64 0, .int .i64 0, .int .i64 0, .int .i64 0, .int .i64 0, .slice A6 0 cap6] 35)) A5 [Jn.e0]) := ⟨HV5.out.to hbz⟩
  clear hbz hb6 hr6 hn6 hc6
  go_wp2_with fail
  refine (H7.out (w6.heap.size + 1) _ (lit_rdm (w6.alloc (.cells #[.int .i64 0, .int .i64 0, .int .i64 0, .int .i64 0, .int .i64 0, .int .i64 0, .slice A6 0 cap6] 35)) (w6.heap.size + 1) (by simp) (bv [6, 200, 1, 14, 0, 0, 0, 0, 0]) 5 _)).mono ?_
  rintro e w7 ⟨A7, n7, cap7, rfl, hn7, hc7, hr7, _, hb7⟩
  have hn7' : n7 = 0 := hn7
  subst hn7'
  unfold Jn.Ev.val Jn.zero
  simp only
  have hbz : Below (w6.alloc (.cells #[.int .i64 0, .int .i64 0, .int .i64 0, .int .i64 0, .int .i64 0, .int .i64 0, .slice A6 0 cap6] 35)).heap.size (w6.alloc (.cells #[.int .i64 0, .int .i64 0, .int .i64 0, .int .i64 0, .int .i64 0, .int .i64 0, .slice A6 0 cap6] 35)) (w7.alloc (.cells #[.int .i64 0, .int .i64 0, .int .i64 0, .int .i64 0, .int .i64 0, .int .i64 0, .slice A7 0 cap7] 35)) := on (on (below_new (w6.alloc (.cells #[.int .i64 0, .int .i64 0, .int .i64 0, .int .i64 0, .int .i64 0, .int .i64 0, .slice A6 0 cap6] 35)) _) hb7) (below_new w7 _)
  have HB7 : Bx (Below w1.heap.size w1 (w7.alloc (.cells #[.int .i64 0, .int .i64 0, .int .i64 0, .int .i64 0, .int .i64 0, .int .i64 0, .slice A7 0 cap7] 35))) := ⟨on HB6.out hbz⟩
  have HE17 : Bx (EvAt (w7.alloc (.cells #[.int .i64 0, .int .i64 0, .int .i64 0, .int .i64 0, .int .i64 0, .int .i64 0, .slice A7 0 cap7] 35)) w.heap.size 3 100 7 0 0 0 none 0 0) := ⟨HE16.out.to hbz⟩
  have HE27 : Bx (EvAt (w7.alloc (.cells #[.int .i64 0, .int .i64 0, .int .i64 0, .int .i64 0, .int .i64 0, .int .i64 0, .slice A7 0 cap7] 35)) w2.heap.size 3 100 7 0 0 0 A2 0 cap2) := ⟨HE26.out.to hbz⟩
  have HV7 : Bx (Jn.Evs (w7.alloc (.cells #[.int .i64 0, .int .i64 0, .int .i64 0, .int .i64 0, .int .i64 0, .int .i64 0, .slice A7 0 cap7] 35)) A5 [Jn.e0]) := ⟨HV6.out.to hbz⟩
  clear hbz hb7 hr7 hn7 hc7
  go_wp2_with fail
  refine (H8.out (w7.heap.size + 1) _ (lit_rdm (w7.alloc (.cells #[.int .i64 0, .int .i64 0, .int .i64 0, .int .i64 0, .int .i64 0, .int .i64 0, .slice A7 0 cap7] 35)) (w7.heap.size + 1) (by simp) (bv [36, 0, 0, 0, 0, 0, 0]) 5 _)).mono ?_
  rintro e w8 ⟨A8, n8, cap8, rfl, hn8, hc8, hr8, _, hb8⟩
  have hn8' : n8 = 0 := hn8
  subst hn8'
  unfold Jn.Ev.val Jn.zero
  simp only
  have hbz : Below (w7.alloc (.cells #[.int .i64 0, .int .i64 0, .int .i64 0, .int .i64 0, .int .i64 0, .int .i64 0, .slice A7 0 cap7] 35)).heap.size (w7.alloc (.cells #[.int .i64 0, .int .i64 0, .int .i64 0, .int .i64 0, .int .i64 0, .int .i64 0, .slice A7 0 cap7] 35)) (w8.alloc (.cells #[.int .i64 0, .int .i64 0, .int .i64 0, .int .i64 0, .int .i64 0, .int .i64 0, .slice A8 0 cap8] 35)) := on (on (below_new (w7.alloc (.cells #[.int .i64 0, .int .i64 0, .int .i64 0, .int .i64 0, .int .i64 0, .int .i64 0, .slice A7 0 cap7] 35)) _) hb8) (below_new w8 _)
  have HB8 : Bx (Below w1.heap.size w1 (w8.alloc (.cells #[.int .i64 0, .int .i64 0, .int .i64 0, .int .i64 0, .int .i64 0, .int .i64 0, .slice A8 0 cap8] 35))) := ⟨on HB7.out hbz⟩
  have HE18 : Bx (EvAt (w8.alloc (.cells #[.int .i64 0, .int .i64 0, .int .i64 0, .int .i64 0, .int .i64 0, .int .i64 0, .slice A8 0 cap8] 35)) w.heap.size 3 100 7 0 0 0 none 0 0) := ⟨HE17.out.to hbz⟩
  have HE28 : Bx (EvAt (w8.alloc (.cells #[.int .i64 0, .int .i64 0, .int .i64 0, .int .i64 0, .int .i64 0, .int .i64 0, .slice A8 0 cap8] 35)) w2.heap.size 3 100 7 0 0 0 A2 0 cap2) := ⟨HE27.out.to hbz⟩
  have HV8 : Bx (Jn.Evs (w8.alloc (.cells #[.int .i64 0, .int .i64 0, .int .i64 0, .int .i64 0, .int .i64 0, .int .i64 0, .slice A8 0 cap8] 35)) A5 [Jn.e0]) := ⟨HV7.out.to hbz⟩
  clear hbz hb8 hr8 hn8 hc8
  go_wp2_with fail
  refine (H9.out A1 cap1 (w8.heap.size + 1) _ ((HR1.out.to HB8.out).to (below_new (w8.alloc (.cells #[.int .i64 0, .int .i64 0, .int .i64 0, .int .i64 0, .int .i64 0, .int .i64 0, .slice A8 0 cap8] 35)) _)) (lit_rdm (w8.alloc (.cells #[.int .i64 0, .int .i64 0, .int .i64 0, .int .i64 0, .int .i64 0, .int .i64 0, .slice A8 0 cap8] 35)) (w8.heap.size + 1) (by simp) (bv [6, 200, 1, 14, 0, 0, 0, 0]) 5 _)).mono ?_
  rintro e w9 ⟨rfl, hw9⟩
  have hb9 : Below (w8.alloc (.cells #[.int .i64 0, .int .i64 0, .int .i64 0, .int .i64 0, .int .i64 0, .int .i64 0, .slice A8 0 cap8] 35)).heap.size (w8.alloc (.cells #[.int .i64 0, .int .i64 0, .int .i64 0, .int .i64 0, .int .i64 0, .int .i64 0, .slice A8 0 cap8] 35)) w9 := by rw [← hw9]; exact below_new (w8.alloc (.cells #[.int .i64 0, .int .i64 0, .int .i64 0, .int .i64 0, .int .i64 0, .int .i64 0, .slice A8 0 cap8] 35)) _
  have HB9 : Bx (Below w1.heap.size w1 w9) := ⟨on HB8.out hb9⟩
  have HE19 : Bx (EvAt w9 w.heap.size 3 100 7 0 0 0 none 0 0) := ⟨HE18.out.to hb9⟩
  have HE29 : Bx (EvAt w9 w2.heap.size 3 100 7 0 0 0 A2 0 cap2) := ⟨HE28.out.to hb9⟩
  have HV9 : Bx (Jn.Evs w9 A5 [Jn.e0]) := ⟨HV8.out.to hb9⟩
  clear hb9 hw9
  obtain ⟨c0, c1, c2, c3, c4, c5, c6, _⟩ := HE19.out
  obtain ⟨d0, d1, d2, d3, d4, d5, d6, _⟩ := HE29.out
  go_wp2_with fail
  refine (H10.out A2 cap2 w9 (Rd.nil _ _)).mono ?_
  rintro e w10 ⟨rfl, hb10⟩
  have HB10 : Bx (Below w1.heap.size w1 w10) := ⟨on HB9.out hb10⟩
  have HE110 : Bx (EvAt w10 w.heap.size 3 100 7 0 0 0 none 0 0) := ⟨HE19.out.to hb10⟩
  have HV10 : Bx (Jn.Evs w10 A5 [Jn.e0]) := ⟨HV9.out.to hb10⟩
  clear hb10 c0 c1 c2 c3 c4 c5 c6 d0 d1 d2 d3 d4 d5 d6
  obtain ⟨c0, c1, c2, c3, c4, c5, c6, _⟩ := HE110.out
  go_wp2_with fail
  refine (H11.out A5 cap5 w10.heap.size _ (HV10.out.to (below_new w10 _)) ((EvAt.new w10 3 100 7 0 0 0 none 0 0 35 _).evs (m := []) rfl (fun _ => rfl) (Rd.nil _ _))).mono ?_
  rintro e w11 ⟨rfl, hb11⟩
  have hb11' : Below w10.heap.size w10 w11 := on (below_new w10 _) hb11
  have HB11 : Bx (Below w1.heap.size w1 w11) := ⟨on HB10.out hb11'⟩
  have HE111 : Bx (EvAt w11 w.heap.size 3 100 7 0 0 0 none 0 0) := ⟨HE110.out.to hb11'⟩
  clear hb11 hb11' c0 c1 c2 c3 c4 c5 c6
  obtain ⟨c0, c1, c2, c3, c4, c5, c6, _⟩ := HE111.out
  go_wp2_with fail
  refine (H12.out w11).mono ?_
  rintro e w12 ⟨rfl, hb12⟩
  have HB12 : Bx (Below w.heap.size w w12) := ⟨HB1.out.trans ((on HB11.out hb12).mono HB1.out.size)⟩
  clear hb12 c0 c1 c2 c3 c4 c5 c6
  go_wp2
  go_ret
  exact ⟨rfl, HB12.out⟩
end Go.Proofs.Ytcpdfgckfefboaa
