/- The walk of Append. -/
import Derived.Test.YtcpdfgckfefboaaJnApp
import Derived.Test.YtcpdfgckfefboaaJnGetB
namespace Go.Proofs.Ytcpdfgckfefboaa
open Go.RowKit
namespace Jn
theorem flat_le : ∀ z : List Int, (z.flatMap Wp.putI).length ≤ 10 * z.length
  | [] => by simp
  | a :: r => by
    have h1 := putI_len a
    have h2 := flat_le r
    rw [List.flatMap_cons, List.length_append, List.length_cons]
    omega
theorem bytes_len {e : Ev} (h : check e = 0) : (bytes e).length ≤ 300 := by
  obtain ⟨_, _, _, _, _, _, h7, _⟩ := check_ok h
  have a1 := putI_len e.kind
  have a2 := putI_len e.at_
  have a3 := putI_len e.a
  have a4 := putI_len e.b
  have a5 := putI_len e.c
  have a6 := putI_len e.d
  have a7 := flat_le e.mix
  have a8 := (Wp.varint_len e.mix.length).2
  unfold bytes Wp.putN
  simp only [List.length_append]
  omega
theorem fr_bytes {e : Ev} (h : check e = 0) : Cr.fr (bytes e) = (Cr.frame (bytes e), 0) := by
  have := bytes_len h
  unfold Cr.fr
  rw [if_neg (by omega)]
theorem frame_len {e : Ev} (h : check e = 0) : (Cr.frame (bytes e)).length ≤ 400 := by
  have h1 := bytes_len h
  have h2 := (Wp.varint_len (bytes e).length).2
  unfold Cr.frame
  simp only [List.length_append, Cr.four_length]
  omega
end Jn

set_option maxRecDepth 100000 in
set_option maxHeartbeats 3200000 in
theorem append_any (A0 : Option Addr) (n0 cap0 : Nat) (l0 : List UInt8) (h0 : n0 = l0.length) (c0 : A0 = none → cap0 = 0) (E : Jn.Ev) (A : Option Addr) (n cap : Nat) (hn : n = E.mix.length) (w : World) (r0 : Rd w A0 (bv l0)) (hr : Rd w A (iv E.mix)) (hm : E.mix.length ≤ 1000000000000) (hs : n0 ≤ 400000) :
    Calls Try.prog 16 #[.slice A0 n0 cap0, E.val A n cap] w (RetPB w (Jn.app l0 E)) := by
  have HP := Lib.hid (fun w' (hb : Below w.heap.size w w') => put_any E A n cap hn w' (hr.to hb) hm)
  have R0 := Lib.hid r0
  by_cases hc : Jn.check E = 0
  · have HS : Bx (Jn.app l0 E = (l0 ++ Cr.frame (Jn.bytes E), 0)) := ⟨by unfold Jn.app; rw [if_neg (by omega)]⟩
    rw [Jn.put_ok hc] at HP
    have HFR : Bx (Cr.fr (Jn.bytes E) = (Cr.frame (Jn.bytes E), 0)) := ⟨Jn.fr_bytes hc⟩
    have HBL : Bx ((Jn.bytes E).length ≤ 300) := ⟨Jn.bytes_len hc⟩
    have HFL : Bx ((Cr.frame (Jn.bytes E)).length ≤ 400) := ⟨Jn.frame_len hc⟩
    generalize Jn.app l0 E = pp at HS ⊢
    generalize Cr.frame (Jn.bytes E) = fb at HS HFR HFL
    generalize Jn.bytes E = by_ at HP HFR HBL
    unfold Jn.Ev.val at HP ⊢
    obtain ⟨K, T, a, b, c, d, mix⟩ := E
    simp only at hn hr hm HP ⊢
    have H0 : Bx (n0 = l0.length) := ⟨h0⟩
    have C0 := Lib.hid c0
    clear hc hr hm hn r0 h0 c0
    go_enter Try.func16, Try.ntmps16
    go_wp2_with fail
    refine (HP.out _ (below_new w _)).mono ?_
    rintro e w1 ⟨A1, n1, cap1, rfl, hn1, hcap1, hc1, hr1, hb1⟩
    try simp only at hn1 hr1
    have HB1 := Lib.hid (on (below_new w _) hb1)
    have HF0 := frame_any A1 n1 cap1 by_ hn1 hc1 w1 hr1 (by have := HBL.out; omega)
    rw [HFR.out] at HF0
    have HF := Lib.hid HF0
    clear hn1 hcap1 hc1 hr1 hb1 HF0
    go_wp2_with fail
    refine (HF.out).mono ?_
    rintro e w2 ⟨A2, n2, cap2, rfl, hn2, ho2, hb2⟩
    try simp only at hn2 ho2
    have HB2 := Lib.hid (on HB1.out hb2)
    have HCC := Lib.hid (concat_any A0 n0 cap0 l0 H0.out C0.out A2 n2 cap2 fb hn2 (own_none ho2) w2.heap.size (w2.alloc (.cells #[.slice A0 n0 cap0, .slice A2 n2 cap2] 23)) (by simp) (by unfold World.cell?; rw [heap_alloc_new]; simp) (by unfold World.cell?; rw [heap_alloc_new]; simp)
      ((R0.out.to HB2.out).to (below_new w2 _)) ((own_rd ho2).to (below_new w2 _)) hs (by have := HFL.out; omega))
    clear hn2 ho2 hb2 hs
    go_wp2_with fail
    refine (HCC.out).mono ?_
    rintro e w3 ⟨A3, n3, cap3, rfl, hn3, hc3, hk3, hr3, hb3⟩
    have HX : Bx (RetPB w pp (.returned (.tuple #[.slice A3 n3 cap3, .int .i64 0])) w3) := ⟨by
      rw [HS.out]
      exact ⟨A3, n3, cap3, rfl, hn3, hc3, hk3, hr3, on HB2.out (on (below_new w2 _) hb3)⟩⟩
    clear hn3 hc3 hk3 hr3 hb3
    go_wp2
    go_ret2
    exact HX.out
  · have HF : Bx (Jn.app l0 E = ([], Jn.check E)) := ⟨by unfold Jn.app; rw [if_pos hc]⟩
    rw [Jn.put_err hc] at HP
    generalize Jn.app l0 E = pp at HF ⊢
    generalize Jn.check E = cc at HP HF hc
    unfold Jn.Ev.val at HP ⊢
    obtain ⟨K, T, a, b, c, d, mix⟩ := E
    simp only at hn hr hm HP ⊢
    have hcf : (cc == 0) = false := beq_f hc
    clear hc hr hm hn r0 h0 c0 hs
    go_enter Try.func16, Try.ntmps16
    go_wp2_with fail
    refine (HP.out _ (below_new w _)).mono ?_
    rintro e w1 ⟨A1, n1, cap1, rfl, hn1, hcap1, hc1, hr1, hb1⟩
    have HB1 := Lib.hid (on (below_new w _) hb1)
    clear hn1 hcap1 hc1 hr1 hb1
    go_wp2
    go_ret2
    exact RetPB.fail HF.out HB1.out
end Go.Proofs.Ytcpdfgckfefboaa
