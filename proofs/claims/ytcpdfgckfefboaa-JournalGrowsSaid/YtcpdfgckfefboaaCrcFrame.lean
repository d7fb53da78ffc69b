/- The walks of Frame, and of the reference's. -/
import Derived.Test.YtcpdfgckfefboaaCrcTail
import Derived.Test.YtcpdfgckfefboaaWireRefC
namespace Go.Proofs.Ytcpdfgckfefboaa
open Go.RowKit

/-- The call returns bytes of its own and an error. -/
def RetBE (w : World) (l : List UInt8) (er : Int) (e : Ending) (w' : World) : Prop :=
  ∃ A n cap, e = .returned (.tuple #[.slice A n cap, .int .i64 er]) ∧ n = l.length ∧ w'.ownsRow w.heap.size 5 1 (.slice A n cap) n (bv l) ∧ Below w.heap.size w w'

namespace Cr
/-- What Frame returns. -/
def fr (l : List UInt8) : List UInt8 × Int := if 65536 < l.length then ([], 8) else (frame l, 0)
end Cr

set_option maxRecDepth 100000 in
set_option maxHeartbeats 3200000 in
theorem frame_any (A : Option Addr) (n cap : Nat) (l : List UInt8) (hn : n = l.length) (hc0 : A = none → cap = 0) (w : World) (hr : Rd w A (bv l)) (hl : l.length ≤ 1000000) :
    Calls Try.prog 28 #[.slice A n cap] w (RetBE w (Cr.fr l).1 (Cr.fr l).2) := by
  by_cases hbig : 65536 < l.length
  · have HF := Lib.hid (show Cr.fr l = ([], 8) by unfold Cr.fr; rw [if_pos hbig])
    have hb' : (65536 : Int) < (n : Int) := by omega
    clear hr hc0 hbig hl hn
    go_enter Try.func28, Try.ntmps28
    go_wp2
    go_ret2
    rw [HF.out]
    exact ⟨none, 0, 0, rfl, rfl, World.ownsRow_nil _ _ _ _, Below.refl _ _⟩
  · have HF := Lib.hid (show Cr.fr l = (Wp.varint n ++ l ++ Cr.four (Cr.sum l), 0) by unfold Cr.fr Cr.frame; rw [if_neg hbig, hn])
    obtain ⟨i0, hi, hz0, hz1, hz2⟩ := info_parts info_u8
    have hb' : ¬ (65536 : Int) < (n : Int) := by omega
    have hn6 : n ≤ 65536 := by omega
    have H1 := Lib.hid (putuint_any none 0 0 [] rfl n w (Rd.nil _ _) (by omega) (by decide))
    have HT := Lib.hid (fun w' (hb : Below w.heap.size w w') => tail_any A n cap l hn w' (hr.to hb) (by omega))
    have HR := Lib.hid (fun w' (hb : Below w.heap.size w w') => hr.to hb)
    have HN := Lib.hid (show (bv l).length = n by rw [bv_length, hn])
    have HC := Lib.hid hc0
    have HVL := Lib.hid (Wp.varint_len n)
    rw [List.nil_append] at H1
    generalize Cr.sum l = s at HF HT
    have HF4 := Lib.hid (Cr.four_length s)
    generalize Cr.four s = f4 at HF HT HF4
    clear hr hc0 hbig hl hn
    go_enter Try.func28, Try.ntmps28
    go_wp2_with fail
    refine H1.out.mono ?_
    rintro e w1 ⟨A1, n1, cap1, rfl, hl1, hown1, hb1⟩
    have HO1 := Lib.hid hown1
    have HB1 := Lib.hid hb1
    have hs1 : n1 ≤ 10 := by have := HVL.out.2; omega
    have HL1 := Lib.hid hl1
    have HS1 := Lib.hid hb1.size
    clear hown1 hb1 hl1
    obtain ⟨n2, hn2⟩ : ∃ n2, n2 = n1 + n := ⟨_, rfl⟩
    have HN2 := Lib.hid hn2
    have hn2l : n2 ≤ 65546 := by omega
    clear hn2
    go_wp2_with (at_builtin; refine wpList_appN rfl _ _ 23 rfl w.heap.size 5 i0 (.int .u8 0) 1 Try.underlying23 hi hz0 hz1 hz2 rfl _ n1 _ rfl HO1.out A n cap (bv l) rfl HN.out HC.out (HR.out w1 HB1.out) (bv_one l) (by unfold maxLen; omega) (by omega) HS1.out n2 HN2.out ?_; intro A2 cap2 w2 hcap2 hown2 hb2; have HO2 := Lib.hid hown2; have HB2 := Lib.hid (HB1.out.trans hb2); have HS2 := Lib.hid hb2.size; clear hown2 hb2 hcap2)
    refine (HT.out w2 HB2.out).mono ?_
    rintro e w3 ⟨A3, n3, cap3, rfl, hn3, hown3, hb3⟩
    have HN3 := Lib.hid hn3
    have HO3 := Lib.hid hown3
    have HB3 := Lib.hid (on HB2.out hb3)
    have HS3 := Lib.hid hb3.size
    have HO2k := Lib.hid (own_kept HO2.out hb3)
    have HN3b := Lib.hid (show (bv f4).length = n3 by rw [bv_length, hn3])
    have h34 : n3 = 4 := by rw [hn3]; exact HF4.out
    have HC3 := Lib.hid (fun hA : A3 = none => own_none HO3.out hA)
    clear hn3 hown3 hb3
    obtain ⟨n4, hn4⟩ : ∃ n4, n4 = n2 + n3 := ⟨_, rfl⟩
    have HN4 := Lib.hid hn4
    have hn34 : n2 + n3 ≤ 70000 := by omega
    clear hn4 h34
    go_wp2_with (at_builtin; refine wpList_appN rfl _ _ 23 rfl w.heap.size 5 i0 (.int .u8 0) 1 Try.underlying23 hi hz0 hz1 hz2 rfl _ n2 _ rfl HO2k.out A3 n3 cap3 (bv f4) rfl HN3b.out HC3.out (own_rd HO3.out) (bv_one f4) (by unfold maxLen; omega) (by omega) (by have := HS1.out; have := HS2.out; have := HS3.out; omega) n4 HN4.out ?_; intro A4 cap4 w4 hcap4 hown4 hb4; have HO4 := Lib.hid hown4; have HB4 := Lib.hid hb4; clear hown4 hb4 hcap4)
    go_ret2
    rw [HF.out]
    refine ⟨A4, n4, cap4, rfl, ?_, ?_, HB3.out.trans (HB4.out.mono (Nat.le_refl _))⟩
    · rw [HN4.out, HN3.out, HN2.out, HL1.out]
      have := HN.out
      rw [bv_length] at this
      simp only [List.length_append]
      omega
    · have := HO4.out
      rw [bv_append, bv_append]
      exact this

set_option maxRecDepth 100000 in
set_option maxHeartbeats 3200000 in
theorem rframe_any (A : Option Addr) (n cap : Nat) (l : List UInt8) (hn : n = l.length) (hc0 : A = none → cap = 0) (w : World) (hr : Rd w A (bv l)) (hl : l.length ≤ 1000000) :
    Calls Try.prog 36 #[.slice A n cap] w (RetBE w (Cr.fr l).1 (Cr.fr l).2) := by
  by_cases hbig : 65536 < l.length
  · have HF := Lib.hid (show Cr.fr l = ([], 8) by unfold Cr.fr; rw [if_pos hbig])
    have hb' : (65536 : Int) < (n : Int) := by omega
    clear hr hc0 hbig hl hn
    go_enter Try.func36, Try.ntmps36
    go_wp2
    go_ret2
    rw [HF.out]
    exact ⟨none, 0, 0, rfl, rfl, World.ownsRow_nil _ _ _ _, Below.refl _ _⟩
  · have HF := Lib.hid (show Cr.fr l = (Wp.varint n ++ l ++ Cr.four (Cr.sum l), 0) by unfold Cr.fr Cr.frame; rw [if_neg hbig, hn])
    obtain ⟨i0, hi, hz0, hz1, hz2⟩ := info_parts info_u8
    have hb' : ¬ (65536 : Int) < (n : Int) := by omega
    have hn6 : n ≤ 65536 := by omega
    have H1 := Lib.hid (rputuint_any none 0 0 [] rfl (fun _ => rfl) n w (Rd.nil _ _) (by omega) (by decide))
    have HT := Lib.hid (fun w' (hb : Below w.heap.size w w') => rtail_any (Cr.sum l) (Cr.sum_lt l) w')
    have HSU := Lib.hid (fun w' (hb : Below w.heap.size w w') => rsum_any A n cap l hn w' (hr.to hb) (by omega))
    have HR := Lib.hid (fun w' (hb : Below w.heap.size w w') => hr.to hb)
    have HN := Lib.hid (show (bv l).length = n by rw [bv_length, hn])
    have HC := Lib.hid hc0
    have HVL := Lib.hid (Wp.varint_len n)
    rw [List.nil_append] at H1
    generalize Cr.sum l = s at HF HT HSU
    have HF4 := Lib.hid (Cr.four_length s)
    generalize Cr.four s = f4 at HF HT HF4
    clear hr hc0 hbig hl hn
    go_enter Try.func36, Try.ntmps36
    go_wp2_with fail
    refine H1.out.mono ?_
    rintro e w1 ⟨A1, n1, cap1, rfl, hl1, hown1, hb1⟩
    have HO1 := Lib.hid hown1
    have HB1 := Lib.hid hb1
    have hs1 : n1 ≤ 10 := by have := HVL.out.2; omega
    have HL1 := Lib.hid hl1
    have HS1 := Lib.hid hb1.size
    clear hown1 hb1 hl1
    obtain ⟨n2, hn2⟩ : ∃ n2, n2 = n1 + n := ⟨_, rfl⟩
    have HN2 := Lib.hid hn2
    have hn2l : n2 ≤ 65546 := by omega
    clear hn2
    go_wp2_with (at_builtin; refine wpList_appN rfl _ _ 23 rfl w.heap.size 5 i0 (.int .u8 0) 1 Try.underlying23 hi hz0 hz1 hz2 rfl _ n1 _ rfl HO1.out A n cap (bv l) rfl HN.out HC.out (HR.out w1 HB1.out) (bv_one l) (by unfold maxLen; omega) (by omega) HS1.out n2 HN2.out ?_; intro A2 cap2 w2 hcap2 hown2 hb2; have HO2 := Lib.hid hown2; have HB2 := Lib.hid (HB1.out.trans hb2); have HS2 := Lib.hid hb2.size; clear hown2 hb2 hcap2)
    refine (HSU.out w2 HB2.out).mono ?_
    rintro e w' ⟨rfl, rfl⟩
    go_wp2_with fail
    refine (HT.out w2 HB2.out).mono ?_
    rintro e w3 ⟨A3, n3, cap3, rfl, hn3, hown3, hb3⟩
    have HN3 := Lib.hid hn3
    have HO3 := Lib.hid hown3
    have HB3 := Lib.hid (on HB2.out hb3)
    have HS3 := Lib.hid hb3.size
    have HO2k := Lib.hid (own_kept HO2.out hb3)
    have HN3b := Lib.hid (show (bv f4).length = n3 by rw [bv_length, hn3])
    have h34 : n3 = 4 := by rw [hn3]; exact HF4.out
    have HC3 := Lib.hid (fun hA : A3 = none => own_none HO3.out hA)
    clear hn3 hown3 hb3
    obtain ⟨n4, hn4⟩ : ∃ n4, n4 = n2 + n3 := ⟨_, rfl⟩
    have HN4 := Lib.hid hn4
    have hn34 : n2 + n3 ≤ 70000 := by omega
    clear hn4 h34
    go_wp2_with (at_builtin; refine wpList_appN rfl _ _ 23 rfl w.heap.size 5 i0 (.int .u8 0) 1 Try.underlying23 hi hz0 hz1 hz2 rfl _ n2 _ rfl HO2k.out A3 n3 cap3 (bv f4) rfl HN3b.out HC3.out (own_rd HO3.out) (bv_one f4) (by unfold maxLen; omega) (by omega) (by have := HS1.out; have := HS2.out; have := HS3.out; omega) n4 HN4.out ?_; intro A4 cap4 w4 hcap4 hown4 hb4; have HO4 := Lib.hid hown4; have HB4 := Lib.hid hb4; clear hown4 hb4 hcap4)
    go_ret2
    rw [HF.out]
    refine ⟨A4, n4, cap4, rfl, ?_, ?_, HB3.out.trans (HB4.out.mono (Nat.le_refl _))⟩
    · rw [HN4.out, HN3.out, HN2.out, HL1.out]
      have := HN.out
      rw [bv_length] at this
      simp only [List.length_append]
      omega
    · have := HO4.out
      rw [bv_append, bv_append]
      exact this
end Go.Proofs.Ytcpdfgckfefboaa
