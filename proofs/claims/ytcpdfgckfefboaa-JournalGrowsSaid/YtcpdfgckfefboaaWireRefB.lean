/- The walks of the reference's PutInt, TakeInt, PutText, length, TakeText, PutList, TakeList, Same. -/
import Derived.Test.YtcpdfgckfefboaaWireRef
namespace Go.Proofs.Ytcpdfgckfefboaa
open Go.RowKit

theorem own_none {w : World} {B : Nat} {e : TypeId} {A : Option Addr} {n cap : Nat} {xs : List Value} (h : w.ownsRow B e 1 (.slice A n cap) n xs) (hA : A = none) : cap = 0 := by
  rcases h.2 with ⟨hv, _⟩ | ⟨g, cap', cur, hv, _⟩
  · injection hv
  · injection hv with h1
    rw [hA] at h1
    cases h1

set_option maxRecDepth 100000 in
set_option maxHeartbeats 1600000 in
theorem rputint_any (A : Option Addr) (m cap : Nat) (l : List UInt8) (hm : m = l.length) (hc0 : A = none → cap = 0) (n : Int) (w : World) (hr : Rd w A (bv l)) (h1 : -9223372036854775808 ≤ n) (h2 : n ≤ 9223372036854775807) (hl : l.length ≤ 100000000000) :
    Calls Try.prog 34 #[.slice A m cap, .int .i64 n] w (RetRow w.heap.size w (l ++ Wp.putI n)) := by
  have HP := Lib.hid (rputuint_any A m cap l hm hc0 (Wp.zz n) w hr (Wp.zz_lt n h1 h2) hl)
  clear hm hc0 hr
  by_cases h : 0 ≤ n
  · have hv : 2 * n = (Wp.zz n : Int) := by unfold Wp.zz; rw [if_pos h]; omega
    have HV := Lib.hid hv
    clear hv
    go_enter Try.func34, Try.ntmps34
    go_wp2_with fail
    rw [HV.out]
    refine HP.out.mono ?_
    rintro e w2 ⟨A2, n2, cap2, rfl, hn2, hown2, hb2⟩
    have HN2 := Lib.hid hn2
    clear hn2
    go_wp2
    go_ret
    exact ⟨A2, n2, cap2, rfl, HN2.out, hown2, hb2⟩
  · have hv : 2 * -(n + 1) + 1 = (Wp.zz n : Int) := by unfold Wp.zz; rw [if_neg h]; omega
    have HV := Lib.hid hv
    clear hv
    go_enter Try.func34, Try.ntmps34
    go_wp2_with fail
    rw [HV.out]
    refine HP.out.mono ?_
    rintro e w2 ⟨A2, n2, cap2, rfl, hn2, hown2, hb2⟩
    have HN2 := Lib.hid hn2
    clear hn2
    go_wp2
    go_ret
    exact ⟨A2, n2, cap2, rfl, HN2.out, hown2, hb2⟩

set_option maxRecDepth 100000 in
set_option maxHeartbeats 800000 in
theorem rtakeint_any (A : Option Addr) (n cap : Nat) (l : List UInt8) (hn : n = l.length) (w : World) (hr : Rd w A (bv l)) (hl : l.length ≤ 1000000000000) :
    Calls Try.prog 40 #[.slice A n cap] w fun e w' => e = .returned (.tuple #[.int .i64 (Wp.takeI l).1, .int .i64 ((Wp.takeI l).2.1 : Int), .int .i64 (Wp.takeI l).2.2]) ∧ w = w' := by
  have HU := Lib.hid (rtakeuint_any A n cap l hn w hr hl)
  clear hr hn
  by_cases h : (Wp.takeU l).2.2 = 0
  · have HF := Lib.hid (Wp.takeI_ok l h)
    have hlt := Wp.takeU_lt l
    rw [h] at HU
    generalize (Wp.takeU l).1 = u at HU HF hlt
    generalize (Wp.takeU l).2.1 = k at HU HF
    clear h
    have hlt' : (u : Int) < 18446744073709551616 := by omega
    rcases Nat.mod_two_eq_zero_or_one u with hm | hm
    · have HV := Lib.hid (show (u : Int) / 2 = Wp.unzz u by unfold Wp.unzz; rw [if_pos hm]; omega)
      have ht := beq_t (show (u : Int) % 2 = 0 by omega)
      clear hm hlt
      go_enter Try.func40, Try.ntmps40
      go_wp2_with fail
      refine HU.out.mono ?_
      rintro e w' ⟨rfl, rfl⟩
      go_wp2
      go_ret3
      exact ⟨ret_takei HF.out HV.out rfl rfl, rfl⟩
    · have HV := Lib.hid (show -((u : Int) / 2) - 1 = Wp.unzz u by unfold Wp.unzz; rw [if_neg (by omega)]; omega)
      have ht := beq_f (show (u : Int) % 2 ≠ 0 by omega)
      clear hm hlt
      go_enter Try.func40, Try.ntmps40
      go_wp2_with fail
      refine HU.out.mono ?_
      rintro e w' ⟨rfl, rfl⟩
      go_wp2
      go_ret3
      exact ⟨ret_takei HF.out HV.out rfl rfl, rfl⟩
  · have HF := Lib.hid (Wp.takeI_bad l h)
    have hz := beq_f h
    generalize (Wp.takeU l).2.2 = er at HU HF hz
    clear h
    go_enter Try.func40, Try.ntmps40
    go_wp2_with fail
    refine HU.out.mono ?_
    rintro e w' ⟨rfl, rfl⟩
    go_wp2
    go_ret3
    exact ⟨ret_takei HF.out rfl rfl rfl, rfl⟩

set_option maxRecDepth 100000 in
set_option maxHeartbeats 1600000 in
theorem rputlist_any (A : Option Addr) (m cap : Nat) (l : List UInt8) (hm : m = l.length) (hc0 : A = none → cap = 0) (A0 : Option Addr) (m0 cap0 : Nat) (z : List Int) (hm0 : m0 = z.length) (w : World) (hr : Rd w A (bv l)) (hz : Rd w A0 (iv z)) (hi : I64 z) (hl : l.length ≤ 1000000000) (hs : z.length ≤ 1000000000) :
    Calls Try.prog 35 #[.slice A m cap, .slice A0 m0 cap0] w (RetRow w.heap.size w (l ++ Wp.putN z)) := by
  subst hm0
  have HP := Lib.hid (rputuint_any A m cap l hm hc0 z.length w hr (by omega) (by omega))
  have HZ := Lib.hid hz
  have HI := Lib.hid hi
  clear hr hz hi hm hc0
  go_enter Try.func35, Try.ntmps35
  go_wp2_with fail
  refine HP.out.mono ?_
  rintro e w2 ⟨A2, n2, cap2, rfl, hn2, hown2, hb2⟩
  have HN2 := Lib.hid hn2
  have HO2 := Lib.hid hown2
  have HB2 := Lib.hid hb2
  clear hown2 hb2 hn2
  have hvl := Lib.hid (Wp.varint_len z.length).2
  go_wp2
  go_loopw [5, 15] (fun v i wr => ∃ (k : Nat) (A : Option Addr) (n cap : Nat) (q : List UInt8), k ≤ z.length ∧ i = .int .i64 (k : Int) ∧ v = .slice A n cap ∧ Hid (n = q.length) ∧ Hid (q = (l ++ Wp.varint z.length) ++ (z.take k).flatMap Wp.putI) ∧ wr.ownsRow w.heap.size 5 1 (.slice A n cap) n (bv q) ∧ Below w.heap.size w wr) (fun _ i _ => z.length - (intOf i).toNat)
  case atStart => exact ⟨0, A2, n2, cap2, l ++ Wp.varint z.length, by omega, rfl, rfl, HN2.out, (show _ = _ by simp), HO2.out, HB2.out⟩
  case round =>
    obtain ⟨k, A3, n3, cap3, q, hk, rfl, rfl, HN3, HQ, ho, hb⟩ := hrel
    have HO := Lib.hid ho
    have HB3 := Lib.hid hb
    by_cases hlt : k < z.length
    · have hql : q.length ≤ 100000000000 := by
        have h1 := flat_len (z.take k)
        have h2 := List.length_take_le k z
        have h3 := hvl.out
        rw [HQ.out]
        simp only [List.length_append]
        omega
      obtain ⟨b, off, hA, hlt2, hc⟩ := (HZ.out.to hb).ati hlt
      subst hA
      have hzb := HI.out.at_ hlt
      have HPI := Lib.hid (rputint_any A3 n3 cap3 q HN3.out (own_none ho) z[k] wr (own_rd ho) hzb.1 hzb.2 hql)
      clear ho hb
      go_wp2_with fail
      refine HPI.out.mono ?_
      rintro e w4 ⟨A4, n4, cap4, rfl, hn4, hown4, hb4⟩
      have HN4 : Hid (n4 = (q ++ Wp.putI z[k]).length) := hn4
      have HO4 := Lib.hid (hown4.mono HB3.out.size)
      have HB4 := Lib.hid (on HB3.out hb4)
      clear hown4 hb4 hn4
      have HQ4 : Hid (q ++ Wp.putI z[k] = (l ++ Wp.varint z.length) ++ (z.take (k + 1)).flatMap Wp.putI) := by
        show _ = _
        rw [putN_snoc z k hlt, HQ.out]
        simp
      go_wp2
      go_roundw
      case rel => exact ⟨k + 1, A4, n4, cap4, q ++ Wp.putI z[k], by omega, by go_num, rfl, HN4, HQ4, HO4.out, HB4.out⟩
      case measure => simp [intOf]; omega
    · have hke : k = z.length := by omega
      subst hke
      have he : q = l ++ Wp.putN z := by
        rw [HQ.out, List.take_length]
        simp [Wp.putN]
      have HE := Lib.hid he
      clear he ho hb
      go_wp2
      go_ret
      refine ⟨A3, n3, cap3, rfl, ?_, ?_, HB3.out⟩
      · rw [← HE.out]; exact HN3.out
      · rw [← HE.out]; exact HO.out

set_option maxRecDepth 100000 in
set_option maxHeartbeats 1600000 in
/-- Same: are two lists of integers equal? -/
theorem same_any (A : Option Addr) (m cap : Nat) (l : List Int) (hm : m = l.length) (A0 : Option Addr) (m0 cap0 : Nat) (r : List Int) (hm0 : m0 = r.length) (w : World) (hl : Rd w A (iv l)) (hr : Rd w A0 (iv r)) (hs : l.length ≤ 1000000000000) :
    Calls Try.prog 42 #[.slice A m cap, .slice A0 m0 cap0] w fun e w' => e = .returned (.bool (decide (l = r))) ∧ Below w.heap.size w w' := by
  subst hm hm0
  have HL := Lib.hid hl
  have HR := Lib.hid hr
  clear hl hr
  by_cases hlen : l.length = r.length
  · have hb0 := beq_t (show (l.length : Int) = (r.length : Int) by omega)
    have HLEN := Lib.hid hlen
    clear hlen
    go_enter Try.func42, Try.ntmps42
    go_wp2
    go_loopw [13] (fun i wr => ∃ k : Nat, k ≤ l.length ∧ i = .int .i64 (k : Int) ∧ Hid (l.take k = r.take k) ∧ Below w.heap.size w wr) (fun i _ => l.length - (intOf i).toNat)
    case atStart => exact ⟨0, by omega, rfl, rfl, Below.refl _ _⟩
    case round =>
      obtain ⟨k, hk, rfl, HE, hb⟩ := hrel
      have HB := Lib.hid hb
      by_cases hlt : k < l.length
      · have hlt2 : k < r.length := by have := HLEN.out; omega
        obtain ⟨b, off, hA, _, hc⟩ := (HL.out.to hb).ati hlt
        obtain ⟨b2, off2, hA2, _, hc2⟩ := (HR.out.to hb).ati hlt2
        subst hA hA2
        have i1 : (0 : Int) ≤ (k : Int) := by omega
        have i2 : (k : Int) < (l.length : Int) := by omega
        have i3 : (k : Int) < (r.length : Int) := by omega
        by_cases he : l[k] = r[k]
        · have hbe := beq_t he
          have HS : Hid (l.take (k + 1) = r.take (k + 1)) := by
            show _ = _
            rw [List.take_succ_eq_append_getElem hlt, List.take_succ_eq_append_getElem hlt2, HE.out, he]
          clear he hb
          go_wp2
          go_quiet (fail)
          go_wp2
          go_roundw
          case rel => exact ⟨k + 1, by omega, by go_num, HS, below_drewN HB.out _⟩
          case measure => simp [intOf]; omega
        · have hbe := beq_f he
          have HF := Lib.hid (show decide (l = r) = false by
            rw [decide_eq_false_iff_not]
            intro h
            subst h
            exact he rfl)
          clear he hb
          go_wp2
          go_quiet (fail)
          go_wp2
          go_ret
          exact ⟨ret_bool HF.out.symm, below_drewN HB.out _⟩
      · have hke : k = l.length := by omega
        subst hke
        have HF := Lib.hid (show decide (l = r) = true by
          rw [decide_eq_true_iff]
          have := HE.out
          rw [List.take_length, HLEN.out, List.take_length] at this
          exact this)
        clear hb
        go_wp2
        go_ret
        exact ⟨ret_bool HF.out.symm, HB.out⟩
  · have hb0 := beq_f (show (l.length : Int) ≠ (r.length : Int) by omega)
    have HF := Lib.hid (show decide (l = r) = false by
      rw [decide_eq_false_iff_not]
      intro h
      exact hlen (by rw [h]))
    clear hlen
    go_enter Try.func42, Try.ntmps42
    go_wp2
    go_ret
    exact ⟨ret_bool HF.out.symm, Below.refl _ _⟩
end Go.Proofs.Ytcpdfgckfefboaa
