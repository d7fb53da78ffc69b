/- The walks of the reference's Put and Append. -/
import Derived.Test.YtcpdfgckfefboaaJnRChk
import Derived.Test.YtcpdfgckfefboaaJnAppB
namespace Go.Proofs.Ytcpdfgckfefboaa
open Go.RowKit
/-- A literal's cells stay. -/
theorem lit_kept (w : World) (C : Array Value) (t : TypeId) (f : Nat × Nat) {wr : World} (hb : Below (w.alloc (.cells C t f)).heap.size (w.alloc (.cells C t f)) wr) (j : Nat) (v : Value) (h : C[j]? = some v) : wr.cell? ⟨w.heap.size, j, none⟩ = some v := by
  rw [hb.cell (by simp)]
  unfold World.cell?
  rw [heap_alloc_new]
  simpa using h
set_option maxRecDepth 100000 in
set_option maxHeartbeats 6400000 in
theorem rput_any (E : Jn.Ev) (A : Option Addr) (n cap : Nat) (hn : n = E.mix.length) (w : World) (hr : Rd w A (iv E.mix)) (hm : E.mix.length ≤ 1000000000000) :
    Calls Try.prog 20 #[E.val A n cap] w (RetPB w (Jn.put E)) := by
  have HC := Lib.hid (fun w' (hb : Below w.heap.size w w') => rcheck_any E A n cap hn w' (hr.to hb) hm)
  by_cases hc : Jn.check E = 0
  · have HS : Bx (Jn.put E = (Jn.bytes E, 0)) := ⟨Jn.put_ok hc⟩
    obtain ⟨q1, q2, q3, q4, q5, q6, q7, q8⟩ := Jn.check_ok hc
    rw [hc] at HC
    unfold Jn.Ev.val at HC ⊢
    obtain ⟨K, T, a, b, c, d, mix⟩ := E
    simp only at hn hr hm HC q1 q2 q3 q4 q5 q6 q7 q8 ⊢
    unfold Jn.badK at q1
    unfold Jn.badT at q2
    unfold Jn.badN at q3 q4 q5 q6
    have HI := Lib.hid (show I64 mix from fun n hn => by have := q8 n hn; unfold Jn.badM at this; omega)
    have HB6 := Lib.hid (show ∀ j, j < 6 → -9223372036854775808 ≤ [K, T, a, b, c, d].getD j 0 ∧ [K, T, a, b, c, d].getD j 0 ≤ 9223372036854775807 from fun j hj => by
      have h6 : j = 0 ∨ j = 1 ∨ j = 2 ∨ j = 3 ∨ j = 4 ∨ j = 5 := by omega
      rcases h6 with rfl | rfl | rfl | rfl | rfl | rfl <;> simp <;> omega)
    have HR0 := Lib.hid hr
    have HM := Lib.hid q7
    have HE : Bx (Jn.put ⟨K, T, a, b, c, d, mix⟩ = (Jn.pre [K, T, a, b, c, d] 6 ++ Wp.putN mix, 0)) := ⟨by rw [HS.out]; simp [Jn.bytes, Jn.pre]⟩
    subst hn
    clear hr hc q1 q2 q3 q4 q5 q6 q8 hm HS
    go_enter Try.func20, Try.ntmps20
    go_wp2_with fail
    refine (HC.out _ (below_new w _)).mono ?_
    rintro e w0 ⟨rfl, hb⟩
    have HB0 : Bx (Below w.heap.size w w0) := ⟨(below_new w _).trans (hb.mono (by simp))⟩
    have HR := Lib.hid (HR0.out.to HB0.out)
    have hsz0 : w.heap.size < w0.heap.size := by have := hb.size; simp at this; omega
    have hv0 : w0.cell? ⟨w.heap.size, 0, none⟩ = some (.int .i64 K) := by
      rw [hb.cell (by simp)]; unfold World.cell?; rw [heap_alloc_new]; simp
    have hv1 : w0.cell? ⟨w.heap.size, 1, none⟩ = some (.int .i64 T) := by
      rw [hb.cell (by simp)]; unfold World.cell?; rw [heap_alloc_new]; simp
    have hv2 : w0.cell? ⟨w.heap.size, 2, none⟩ = some (.int .i64 a) := by
      rw [hb.cell (by simp)]; unfold World.cell?; rw [heap_alloc_new]; simp
    have hv3 : w0.cell? ⟨w.heap.size, 3, none⟩ = some (.int .i64 b) := by
      rw [hb.cell (by simp)]; unfold World.cell?; rw [heap_alloc_new]; simp
    have hv4 : w0.cell? ⟨w.heap.size, 4, none⟩ = some (.int .i64 c) := by
      rw [hb.cell (by simp)]; unfold World.cell?; rw [heap_alloc_new]; simp
    have hv5 : w0.cell? ⟨w.heap.size, 5, none⟩ = some (.int .i64 d) := by
      rw [hb.cell (by simp)]; unfold World.cell?; rw [heap_alloc_new]; simp
    have hv6 : w0.cell? ⟨w.heap.size, 6, none⟩ = some (.slice A mix.length cap) := by
      rw [hb.cell (by simp)]; unfold World.cell?; rw [heap_alloc_new]; simp
    have HV6 : Bx (w0.cell? ⟨w.heap.size, 6, none⟩ = some (.slice A mix.length cap)) := ⟨hv6⟩
    have HLK := Lib.hid (fun (wr : World) (hbw : Below (w0.alloc (.cells #[.int .i64 K, .int .i64 T, .int .i64 a, .int .i64 b, .int .i64 c, .int .i64 d] 3)).heap.size (w0.alloc (.cells #[.int .i64 K, .int .i64 T, .int .i64 a, .int .i64 b, .int .i64 c, .int .i64 d] 3)) wr) (j : Nat) (v : Value) => lit_kept w0 #[.int .i64 K, .int .i64 T, .int .i64 a, .int .i64 b, .int .i64 c, .int .i64 d] 3 _ hbw j v)
    have HBN : Bx (Below w0.heap.size w0 (w0.alloc (.cells #[.int .i64 K, .int .i64 T, .int .i64 a, .int .i64 b, .int .i64 c, .int .i64 d] 3))) := ⟨below_new w0 _⟩
    clear hb hv6
    go_wp2
    clear hv0 hv1 hv2 hv3 hv4 hv5
    generalize w0.alloc (.cells #[.int .i64 K, .int .i64 T, .int .i64 a, .int .i64 b, .int .i64 c, .int .i64 d] 3) = wb at HLK HBN ⊢
    go_loopw [5, 7] (fun bb i wr => ∃ (k : Nat) (A1 : Option Addr) (n1 cap1 : Nat), k ≤ 6 ∧ i = .int .i64 (k : Int) ∧ bb = .slice A1 n1 cap1 ∧ Bx (n1 = (Jn.pre [K, T, a, b, c, d] k).length) ∧ Bx (A1 = none → cap1 = 0) ∧ n1 ≤ 10 * k ∧ Rd wr A1 (bv (Jn.pre [K, T, a, b, c, d] k)) ∧ Below wb.heap.size wb wr) (fun _ i _ => 6 - (intOf i).toNat)
    case atStart => exact ⟨0, none, 0, 0, by omega, rfl, rfl, ⟨rfl⟩, ⟨fun _ => rfl⟩, by omega, Rd.nil _ _, Below.refl _ _⟩
    case round =>
      obtain ⟨k, A1, n1, cap1, hk, rfl, rfl, HN1, HC1, hn1, hr1, hbw⟩ := hrel
      have HB := Lib.hid hbw
      have hk6 : k = 0 ∨ k = 1 ∨ k = 2 ∨ k = 3 ∨ k = 4 ∨ k = 5 ∨ k = 6 := by omega
      rcases hk6 with rfl | rfl | rfl | rfl | rfl | rfl | rfl
      · have HP := Lib.hid (rputint_any A1 n1 cap1 (Jn.pre [K, T, a, b, c, d] 0) HN1.out HC1.out K wr hr1 (HB6.out 0 (by omega)).1 (HB6.out 0 (by omega)).2 (by rw [← HN1.out]; omega))
        rw [← Jn.pre_succ [K, T, a, b, c, d] 0 K rfl] at HP
        have HLN := Lib.hid (show (Jn.pre [K, T, a, b, c, d] (0 + 1)).length ≤ 10 * 1 by
          rw [Jn.pre_succ [K, T, a, b, c, d] 0 K rfl, List.length_append, ← HN1.out]
          have := Jn.putI_len K
          omega)
        have hx := HLK.out wr hbw 0 (.int .i64 K) rfl
        clear hbw hr1
        go_wp2_with fail
        refine (HP.out).mono ?_
        rintro e wo ⟨A2, n2, cap2, rfl, hn2, ho, hbo⟩
        have HN2 : Bx (n2 = (Jn.pre [K, T, a, b, c, d] (0 + 1)).length) := ⟨hn2⟩
        have HC2 : Bx (A2 = none → cap2 = 0) := ⟨own_none ho⟩
        have HR2 := Lib.hid (own_rd ho)
        have HBO := Lib.hid (on HB.out hbo)
        have hn10 : n2 ≤ 10 * 1 := by rw [hn2]; exact HLN.out
        clear hn2 ho hbo hx
        go_wp2
        go_roundw
        case rel => exact ⟨1, A2, n2, cap2, by omega, by go_num, rfl, HN2, HC2, hn10, HR2.out, HBO.out⟩
        case measure => simp [intOf]
      · have HP := Lib.hid (rputint_any A1 n1 cap1 (Jn.pre [K, T, a, b, c, d] 1) HN1.out HC1.out T wr hr1 (HB6.out 1 (by omega)).1 (HB6.out 1 (by omega)).2 (by rw [← HN1.out]; omega))
        rw [← Jn.pre_succ [K, T, a, b, c, d] 1 T rfl] at HP
        have HLN := Lib.hid (show (Jn.pre [K, T, a, b, c, d] (1 + 1)).length ≤ 10 * 2 by
          rw [Jn.pre_succ [K, T, a, b, c, d] 1 T rfl, List.length_append, ← HN1.out]
          have := Jn.putI_len T
          omega)
        have hx := HLK.out wr hbw 1 (.int .i64 T) rfl
        clear hbw hr1
        go_wp2_with fail
        refine (HP.out).mono ?_
        rintro e wo ⟨A2, n2, cap2, rfl, hn2, ho, hbo⟩
        have HN2 : Bx (n2 = (Jn.pre [K, T, a, b, c, d] (1 + 1)).length) := ⟨hn2⟩
        have HC2 : Bx (A2 = none → cap2 = 0) := ⟨own_none ho⟩
        have HR2 := Lib.hid (own_rd ho)
        have HBO := Lib.hid (on HB.out hbo)
        have hn10 : n2 ≤ 10 * 2 := by rw [hn2]; exact HLN.out
        clear hn2 ho hbo hx
        go_wp2
        go_roundw
        case rel => exact ⟨2, A2, n2, cap2, by omega, by go_num, rfl, HN2, HC2, hn10, HR2.out, HBO.out⟩
        case measure => simp [intOf]
      · have HP := Lib.hid (rputint_any A1 n1 cap1 (Jn.pre [K, T, a, b, c, d] 2) HN1.out HC1.out a wr hr1 (HB6.out 2 (by omega)).1 (HB6.out 2 (by omega)).2 (by rw [← HN1.out]; omega))
        rw [← Jn.pre_succ [K, T, a, b, c, d] 2 a rfl] at HP
        have HLN := Lib.hid (show (Jn.pre [K, T, a, b, c, d] (2 + 1)).length ≤ 10 * 3 by
          rw [Jn.pre_succ [K, T, a, b, c, d] 2 a rfl, List.length_append, ← HN1.out]
          have := Jn.putI_len a
          omega)
        have hx := HLK.out wr hbw 2 (.int .i64 a) rfl
        clear hbw hr1
        go_wp2_with fail
        refine (HP.out).mono ?_
        rintro e wo ⟨A2, n2, cap2, rfl, hn2, ho, hbo⟩
        have HN2 : Bx (n2 = (Jn.pre [K, T, a, b, c, d] (2 + 1)).length) := ⟨hn2⟩
        have HC2 : Bx (A2 = none → cap2 = 0) := ⟨own_none ho⟩
        have HR2 := Lib.hid (own_rd ho)
        have HBO := Lib.hid (on HB.out hbo)
        have hn10 : n2 ≤ 10 * 3 := by rw [hn2]; exact HLN.out
        clear hn2 ho hbo hx
        go_wp2
        go_roundw
        case rel => exact ⟨3, A2, n2, cap2, by omega, by go_num, rfl, HN2, HC2, hn10, HR2.out, HBO.out⟩
        case measure => simp [intOf]
      · have HP := Lib.hid (rputint_any A1 n1 cap1 (Jn.pre [K, T, a, b, c, d] 3) HN1.out HC1.out b wr hr1 (HB6.out 3 (by omega)).1 (HB6.out 3 (by omega)).2 (by rw [← HN1.out]; omega))
        rw [← Jn.pre_succ [K, T, a, b, c, d] 3 b rfl] at HP
        have HLN := Lib.hid (show (Jn.pre [K, T, a, b, c, d] (3 + 1)).length ≤ 10 * 4 by
          rw [Jn.pre_succ [K, T, a, b, c, d] 3 b rfl, List.length_append, ← HN1.out]
          have := Jn.putI_len b
          omega)
        have hx := HLK.out wr hbw 3 (.int .i64 b) rfl
        clear hbw hr1
        go_wp2_with fail
        refine (HP.out).mono ?_
        rintro e wo ⟨A2, n2, cap2, rfl, hn2, ho, hbo⟩
        have HN2 : Bx (n2 = (Jn.pre [K, T, a, b, c, d] (3 + 1)).length) := ⟨hn2⟩
        have HC2 : Bx (A2 = none → cap2 = 0) := ⟨own_none ho⟩
        have HR2 := Lib.hid (own_rd ho)
        have HBO := Lib.hid (on HB.out hbo)
        have hn10 : n2 ≤ 10 * 4 := by rw [hn2]; exact HLN.out
        clear hn2 ho hbo hx
        go_wp2
        go_roundw
        case rel => exact ⟨4, A2, n2, cap2, by omega, by go_num, rfl, HN2, HC2, hn10, HR2.out, HBO.out⟩
        case measure => simp [intOf]
      · have HP := Lib.hid (rputint_any A1 n1 cap1 (Jn.pre [K, T, a, b, c, d] 4) HN1.out HC1.out c wr hr1 (HB6.out 4 (by omega)).1 (HB6.out 4 (by omega)).2 (by rw [← HN1.out]; omega))
        rw [← Jn.pre_succ [K, T, a, b, c, d] 4 c rfl] at HP
        have HLN := Lib.hid (show (Jn.pre [K, T, a, b, c, d] (4 + 1)).length ≤ 10 * 5 by
          rw [Jn.pre_succ [K, T, a, b, c, d] 4 c rfl, List.length_append, ← HN1.out]
          have := Jn.putI_len c
          omega)
        have hx := HLK.out wr hbw 4 (.int .i64 c) rfl
        clear hbw hr1
        go_wp2_with fail
        refine (HP.out).mono ?_
        rintro e wo ⟨A2, n2, cap2, rfl, hn2, ho, hbo⟩
        have HN2 : Bx (n2 = (Jn.pre [K, T, a, b, c, d] (4 + 1)).length) := ⟨hn2⟩
        have HC2 : Bx (A2 = none → cap2 = 0) := ⟨own_none ho⟩
        have HR2 := Lib.hid (own_rd ho)
        have HBO := Lib.hid (on HB.out hbo)
        have hn10 : n2 ≤ 10 * 5 := by rw [hn2]; exact HLN.out
        clear hn2 ho hbo hx
        go_wp2
        go_roundw
        case rel => exact ⟨5, A2, n2, cap2, by omega, by go_num, rfl, HN2, HC2, hn10, HR2.out, HBO.out⟩
        case measure => simp [intOf]
      · have HP := Lib.hid (rputint_any A1 n1 cap1 (Jn.pre [K, T, a, b, c, d] 5) HN1.out HC1.out d wr hr1 (HB6.out 5 (by omega)).1 (HB6.out 5 (by omega)).2 (by rw [← HN1.out]; omega))
        rw [← Jn.pre_succ [K, T, a, b, c, d] 5 d rfl] at HP
        have HLN := Lib.hid (show (Jn.pre [K, T, a, b, c, d] (5 + 1)).length ≤ 10 * 6 by
          rw [Jn.pre_succ [K, T, a, b, c, d] 5 d rfl, List.length_append, ← HN1.out]
          have := Jn.putI_len d
          omega)
        have hx := HLK.out wr hbw 5 (.int .i64 d) rfl
        clear hbw hr1
        go_wp2_with fail
        refine (HP.out).mono ?_
        rintro e wo ⟨A2, n2, cap2, rfl, hn2, ho, hbo⟩
        have HN2 : Bx (n2 = (Jn.pre [K, T, a, b, c, d] (5 + 1)).length) := ⟨hn2⟩
        have HC2 : Bx (A2 = none → cap2 = 0) := ⟨own_none ho⟩
        have HR2 := Lib.hid (own_rd ho)
        have HBO := Lib.hid (on HB.out hbo)
        have hn10 : n2 ≤ 10 * 6 := by rw [hn2]; exact HLN.out
        clear hn2 ho hbo hx
        go_wp2
        go_roundw
        case rel => exact ⟨6, A2, n2, cap2, by omega, by go_num, rfl, HN2, HC2, hn10, HR2.out, HBO.out⟩
        case measure => simp [intOf]
      · have HBX : Bx (Below w0.heap.size w0 wr) := ⟨on HBN.out hbw⟩
        have hv6 : wr.cell? ⟨w.heap.size, 6, none⟩ = some (.slice A mix.length cap) := by rw [HBX.out.cell hsz0]; exact HV6.out
        have HP := Lib.hid (rputlist_any A1 n1 cap1 (Jn.pre [K, T, a, b, c, d] 6) HN1.out HC1.out A mix.length cap mix rfl wr hr1 (HR.out.to HBX.out) HI.out (by rw [← HN1.out]; omega) (by have := HM.out; omega))
        have HBW : Bx (Below w.heap.size w wr) := ⟨on HB0.out HBX.out⟩
        clear hbw hr1
        go_wp2_with fail
        refine (HP.out).mono ?_
        rintro e wo ⟨A2, n2, cap2, rfl, hn2, ho, hbo⟩
        have HN2 := Lib.hid hn2
        have HO := Lib.hid ho
        have HBO := Lib.hid (on HBW.out hbo)
        clear hn2 ho hbo
        go_wp2
        go_ret2
        refine ⟨A2, n2, cap2, by rw [HE.out]; rfl, by rw [HE.out]; exact HN2.out, (own_cap HO.out).1, own_none HO.out, by rw [HE.out]; exact own_rd HO.out, HBO.out⟩
  · have HF : Bx (Jn.put E = ([], Jn.check E)) := ⟨Jn.put_err hc⟩
    unfold Jn.Ev.val at HC ⊢
    generalize Jn.put E = pp at HF ⊢
    generalize Jn.check E = cc at HC hc HF
    obtain ⟨K, T, a, b, c, d, mix⟩ := E
    simp only at HC hn ⊢
    have hcf : (cc == 0) = false := beq_f hc
    have hcn : (cc != 0) = true := by simp [hc]
    clear hc hr hm hn
    go_enter Try.func20, Try.ntmps20
    go_wp2_with fail
    refine (HC.out _ (below_new w _)).mono ?_
    rintro e w0 ⟨rfl, hb⟩
    have HB0 : Bx (Below w.heap.size w w0) := ⟨on (below_new w _) hb⟩
    clear hb
    go_wp2
    go_ret2
    exact RetPB.fail HF.out HB0.out

set_option maxRecDepth 100000 in
set_option maxHeartbeats 3200000 in
theorem rappend_any (A0 : Option Addr) (n0 cap0 : Nat) (l0 : List UInt8) (h0 : n0 = l0.length) (c0 : A0 = none → cap0 = 0) (E : Jn.Ev) (A : Option Addr) (n cap : Nat) (hn : n = E.mix.length) (w : World) (r0 : Rd w A0 (bv l0)) (hr : Rd w A (iv E.mix)) (hm : E.mix.length ≤ 1000000000000) (hs : n0 ≤ 400000) :
    Calls Try.prog 21 #[.slice A0 n0 cap0, E.val A n cap] w (RetPB w (Jn.app l0 E)) := by
  obtain ⟨i0, hi, hz0, hz1, hz2⟩ := info_parts info_u8
  have HP := Lib.hid (fun w' (hb : Below w.heap.size w w') => rput_any E A n cap hn w' (hr.to hb) hm)
  have R0 := Lib.hid r0
  by_cases hc : Jn.check E = 0
  · have HS : Bx (Jn.app l0 E = (l0 ++ Cr.frame (Jn.bytes E), 0)) := ⟨by unfold Jn.app; rw [if_neg (by omega)]⟩
    rw [Jn.put_ok hc] at HP
    have HFR : Bx (Cr.fr (Jn.bytes E) = (Cr.frame (Jn.bytes E), 0)) := ⟨Jn.fr_bytes hc⟩
    have HBL : Bx ((Jn.bytes E).length ≤ 300) := ⟨Jn.bytes_len hc⟩
    have hfl : (Cr.frame (Jn.bytes E)).length ≤ 400 := Jn.frame_len hc
    generalize Jn.app l0 E = pp at HS ⊢
    generalize Cr.frame (Jn.bytes E) = fb at HS HFR hfl
    generalize Jn.bytes E = by_ at HP HFR HBL
    unfold Jn.Ev.val at HP ⊢
    obtain ⟨K, T, a, b, c, d, mix⟩ := E
    simp only at hn hr hm HP ⊢
    have H0 : Bx (n0 = l0.length) := ⟨h0⟩
    have H0b : Bx ((bv l0).length = n0) := ⟨by rw [bv_length]; exact h0.symm⟩
    have HFL : Bx (fb.length ≤ 400) := ⟨hfl⟩
    have C0 := Lib.hid c0
    clear hc hr hm hn r0 h0 c0 hfl
    go_enter Try.func21, Try.ntmps21
    go_wp2_with fail
    refine (HP.out _ (below_new w _)).mono ?_
    rintro e w1 ⟨A1, n1, cap1, rfl, hn1, hcap1, hc1, hr1, hb1⟩
    try simp only at hn1 hr1
    have HB1 := Lib.hid (on (below_new w _) hb1)
    have HF0 := rframe_any A1 n1 cap1 by_ hn1 hc1 w1 hr1 (by have := HBL.out; omega)
    rw [HFR.out] at HF0
    have HF := Lib.hid HF0
    clear hn1 hcap1 hc1 hr1 hb1 HF0
    go_wp2_with fail
    refine (HF.out).mono ?_
    rintro e w2 ⟨A2, n2, cap2, rfl, hn2, ho2, hb2⟩
    try simp only at hn2 ho2
    have HB2 := Lib.hid (on HB1.out hb2)
    have H2b : Bx ((bv fb).length = n2) := ⟨by rw [bv_length]; exact hn2.symm⟩
    have hn2l : n2 ≤ 400 := by rw [hn2]; exact HFL.out
    have C2 := Lib.hid (own_none ho2)
    have R2 := Lib.hid (own_rd ho2)
    have hown0 := Lib.hid (World.ownsRow_lit (base := w2.heap.size) (e := 5) (size := 1) w2 #[] 0 (Nat.le_refl _) (by unfold maxLen; omega) rfl)
    obtain ⟨nm, hnm⟩ : ∃ nm, nm = n0 + n2 := ⟨_, rfl⟩
    have HNM : Bx (nm = n0 + n2) := ⟨hnm⟩
    have HLF : Bx (nm = (l0 ++ fb).length) := ⟨by rw [List.length_append, hnm, H0.out, hn2]⟩
    clear hn2 ho2 hb2 hnm
    go_wp2_with (first
      | (at_builtin; refine wpList_appN rfl _ _ 23 rfl w2.heap.size 5 i0 (.int .u8 0) 1 Try.underlying23 hi hz0 hz1 hz2 rfl _ 0 [] rfl hown0.out A0 n0 cap0 (bv l0) rfl H0b.out C0.out ((R0.out.to HB2.out).to (below_new w2 _)) (bv_one l0) (by unfold maxLen; omega) (by omega) (by simp) n0 (Nat.zero_add n0).symm ?_; intro A5 cap5 w5 hcap5 hown5 hb5; have HO5 := Lib.hid hown5; have HB5 := Lib.hid ((below_new w2 _).trans hb5); clear hown5 hb5 hcap5)
      | (at_builtin; refine wpList_appN rfl _ _ 23 rfl w2.heap.size 5 i0 (.int .u8 0) 1 Try.underlying23 hi hz0 hz1 hz2 rfl _ n0 _ rfl HO5.out A2 n2 cap2 (bv fb) rfl H2b.out C2.out (R2.out.to HB5.out) (bv_one fb) (by unfold maxLen; omega) (by omega) HB5.out.size nm HNM.out ?_; intro A6 cap6 w6 hcap6 hown6 hb6; have HO6 := Lib.hid hown6; have HB6 := Lib.hid (on HB2.out (HB5.out.trans hb6)); clear hown6 hb6 hcap6))
    have HX : Bx (RetPB w pp (.returned (.tuple #[.slice A6 nm cap6, .int .i64 0])) w6) := ⟨by
      have ho := HO6.out
      rw [List.nil_append, ← bv_append] at ho
      rw [HS.out]
      exact ⟨A6, nm, cap6, rfl, HLF.out, (own_cap ho).1, own_none ho, own_rd ho, HB6.out⟩⟩
    go_ret2
    exact HX.out
  · have HF : Bx (Jn.app l0 E = ([], Jn.check E)) := ⟨by unfold Jn.app; rw [if_pos hc]⟩
    rw [Jn.put_err hc] at HP
    generalize Jn.app l0 E = pp at HF ⊢
    generalize Jn.check E = cc at HP HF hc
    unfold Jn.Ev.val at HP ⊢
    obtain ⟨K, T, a, b, c, d, mix⟩ := E
    simp only at hn hr hm HP ⊢
    have hcf : (cc == 0) = false := beq_f hc
    have hcn : (cc != 0) = true := by simp [hc]
    clear hc hr hm hn r0 h0 c0 hs
    go_enter Try.func21, Try.ntmps21
    go_wp2_with fail
    refine (HP.out _ (below_new w _)).mono ?_
    rintro e w1 ⟨A1, n1, cap1, rfl, hn1, hcap1, hc1, hr1, hb1⟩
    have HB1 := Lib.hid (on (below_new w _) hb1)
    clear hn1 hcap1 hc1 hr1 hb1
    go_wp2
    go_ret2
    exact RetPB.fail HF.out HB1.out
end Go.Proofs.Ytcpdfgckfefboaa
