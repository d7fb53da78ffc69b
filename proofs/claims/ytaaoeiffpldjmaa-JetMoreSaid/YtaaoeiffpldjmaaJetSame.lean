/- The walks of the reference's Ints and Same. -/
import Derived.Test.YtaaoeiffpldjmaaJetOpens
namespace Go.Proofs.Ytaaoeiffpldjmaa
open Go.RowKit
theorem Jt.take_more {α : Type} {l r : List α} {k : Nat} (hl : k < l.length) (hr : k < r.length) (h : l.take k = r.take k) (he : l[k] = r[k]) : l.take (k + 1) = r.take (k + 1) := by
  rw [List.take_succ_eq_append_getElem hl, List.take_succ_eq_append_getElem hr, h, he]

set_option maxRecDepth 100000 in
set_option maxHeartbeats 1600000 in
/-- Ints: are two lists of integers equal? -/
theorem ints_any (A : Option Addr) (m cap : Nat) (l : List Int) (hm : m = l.length) (A0 : Option Addr) (m0 cap0 : Nat) (r : List Int) (hm0 : m0 = r.length) (w : World) (hl : Rd w A (iv l)) (hr : Rd w A0 (iv r)) (hs : l.length ≤ 1000000000000) :
    Calls Try.prog 25 #[.slice A m cap, .slice A0 m0 cap0] w fun e w' => e = .returned (.bool (decide (l = r))) ∧ Below w.heap.size w w' := by
  subst hm hm0
  have HL := Lib.hid hl
  have HR := Lib.hid hr
  clear hl hr
  by_cases hlen : l.length = r.length
  · have hb0 := beq_t (show (l.length : Int) = (r.length : Int) by omega)
    have HLEN := Lib.hid hlen
    clear hlen
    go_enter Try.func25, Try.ntmps25
    go_wp2
    go_loopw [13] (fun i wr => ∃ k : Nat, k ≤ l.length ∧ i = .int .i64 (k : Int) ∧ Hid (l.take k = r.take k) ∧ Below w.heap.size w wr) (fun i _ => l.length - (intOf i).toNat)
    case atStart => exact ⟨0, by omega, rfl, rfl, Below.refl _ _⟩
    case round =>
      obtain ⟨k, hk, rfl, HE, hb⟩ := hrel
      have HB := Lib.hid hb
      by_cases hlt : k < l.length
      · have hlt2 : k < r.length := by have := HLEN.out; omega
        obtain ⟨b, off, hA, _, hc⟩ := (HL.out.to hb).ati hlt
        obtain ⟨b2, off2, hA2, _, hc2⟩ := (HR.out.to hb).ati hlt2
        subst hA hA2
        have i1 : (0 : Int) ≤ (k : Int) := by omega
        have i2 : (k : Int) < (l.length : Int) := by omega
        have i3 : (k : Int) < (r.length : Int) := by omega
        by_cases he : l[k] = r[k]
        · have hbe := beq_t he
          have HS : Hid (l.take (k + 1) = r.take (k + 1)) := by
            show _ = _
            rw [List.take_succ_eq_append_getElem hlt, List.take_succ_eq_append_getElem hlt2, HE.out, he]
          clear he hb
          go_wp2
          go_quiet (fail)
          go_wp2
          go_roundw
          case rel => exact ⟨k + 1, by omega, by go_num, HS, below_drewN HB.out _⟩
          case measure => simp [intOf]; omega
        · have hbe := beq_f he
          have HF := Lib.hid (show decide (l = r) = false by
            rw [decide_eq_false_iff_not]
            intro h
            subst h
            exact he rfl)
          clear he hb
          go_wp2
          go_quiet (fail)
          go_wp2
          go_ret
          exact ⟨ret_bool HF.out.symm, below_drewN HB.out _⟩
      · have hke : k = l.length := by omega
        subst hke
        have HF := Lib.hid (show decide (l = r) = true by
          rw [decide_eq_true_iff]
          have := HE.out
          rw [List.take_length, HLEN.out, List.take_length] at this
          exact this)
        clear hb
        go_wp2
        go_ret
        exact ⟨ret_bool HF.out.symm, HB.out⟩
  · have hb0 := beq_f (show (l.length : Int) ≠ (r.length : Int) by omega)
    have HF := Lib.hid (show decide (l = r) = false by
      rw [decide_eq_false_iff_not]
      intro h
      exact hlen (by rw [h]))
    clear hlen
    go_enter Try.func25, Try.ntmps25
    go_wp2
    go_ret
    exact ⟨ret_bool HF.out.symm, Below.refl _ _⟩

set_option maxRecDepth 100000 in
set_option maxHeartbeats 1600000 in
/-- Same: are two lists of windows equal? -/
theorem same_any (A : Option Addr) (m cap : Nat) (l : List Jt.Win) (hm : m = l.length) (A0 : Option Addr) (m0 cap0 : Nat) (r : List Jt.Win) (hm0 : m0 = r.length) (w : World) (hl : Jt.Wins w A l) (hr : Jt.Wins w A0 r) (hs : l.length ≤ 1000000000000) :
    Calls Try.prog 16 #[.slice A m cap, .slice A0 m0 cap0] w fun e w' => e = .returned (.bool (decide (l = r))) ∧ Below w.heap.size w w' := by
  subst hm hm0
  have HL := Lib.hid hl
  have HR := Lib.hid hr
  clear hl hr
  by_cases hlen : l.length = r.length
  · have hb0 : ((l.length : Int) != (r.length : Int)) = false := by simp [hlen]
    have HLEN := Lib.hid hlen
    clear hlen
    go_enter Try.func16, Try.ntmps16
    go_wp2
    go_loopw [13] (fun i wr => ∃ k : Nat, k ≤ l.length ∧ i = .int .i64 (k : Int) ∧ Hid (l.take k = r.take k) ∧ Below w.heap.size w wr) (fun i _ => l.length - (intOf i).toNat)
    case atStart => exact ⟨0, by omega, rfl, rfl, Below.refl _ _⟩
    case round =>
      obtain ⟨k, hk, rfl, HE, hb⟩ := hrel
      have HB := Lib.hid hb
      by_cases hlt : k < l.length
      · have hlt2 : k < r.length := by have := HLEN.out; omega
        obtain ⟨b, off, hA, _, hc, hd⟩ := (HL.out.to hb) k _ (List.getElem?_eq_getElem hlt)
        obtain ⟨b2, off2, hA2, _, hc2, hd2⟩ := (HR.out.to hb) k _ (List.getElem?_eq_getElem hlt2)
        subst hA hA2
        have HTM := Lib.hid (fun he => Jt.take_more hlt hlt2 HE.out he)
        have HNE := Lib.hid (fun he : l[k] ≠ r[k] => show l ≠ r from fun h => he (by subst h; rfl))
        generalize l[k] = p at hc hd HTM HNE
        generalize r[k] = q at hc2 hd2 HTM HNE
        obtain ⟨x, y⟩ := p
        obtain ⟨u, v⟩ := q
        simp only at hc hc2 hd hd2

        have i1 : (0 : Int) ≤ (k : Int) := by omega
        have i2 : (k : Int) < (l.length : Int) := by omega
        have i3 : (k : Int) < (r.length : Int) := by omega
        by_cases hx : x = u
        · subst hx
          by_cases hy : y = v
          · subst hy
            have HS := Lib.hid (HTM.out rfl)
            clear hb
            go_wp2
            go_quiet (fail)
            go_wp2
            go_roundw
            case rel => exact ⟨k + 1, by omega, by go_num, HS, below_drewN HB.out _⟩
            case measure => simp [intOf]; omega
          · have hbe := beq_f hy
            have HF := Lib.hid (show decide (l = r) = false by simpa using HNE.out (by simpa using hy))
            clear hy hb
            go_wp2
            go_quiet (fail)
            go_wp2
            go_ret
            exact ⟨ret_bool HF.out.symm, below_drewN HB.out _⟩
        · have hbe := beq_f hx
          have HF := Lib.hid (show decide (l = r) = false by simpa using HNE.out (by simp [hx]))
          clear hx hb
          go_wp2
          go_quiet (fail)
          go_wp2
          go_ret
          exact ⟨ret_bool HF.out.symm, below_drewN HB.out _⟩
      · have hke : k = l.length := by omega
        subst hke
        have HF := Lib.hid (show decide (l = r) = true by
          rw [decide_eq_true_iff]
          have := HE.out
          rw [List.take_length, HLEN.out, List.take_length] at this
          exact this)
        clear hb
        go_wp2
        go_ret
        exact ⟨ret_bool HF.out.symm, HB.out⟩
  · have hb0 := beq_f (show (l.length : Int) ≠ (r.length : Int) by omega)
    have HF := Lib.hid (show decide (l = r) = false by
      rw [decide_eq_false_iff_not]
      intro h
      exact hlen (by rw [h]))
    clear hlen
    go_enter Try.func16, Try.ntmps16
    go_wp2
    go_ret
    exact ⟨ret_bool HF.out.symm, Below.refl _ _⟩

end Go.Proofs.Ytaaoeiffpldjmaa
