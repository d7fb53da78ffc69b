/- The walks of the reference's digits, Digit and Code. -/
import Derived.Test.YtcplgplcmgbglaaProdCode
namespace Go.Proofs.Ytcplgplcmgbglaa
open Go.RowKit

theorem Pd.first_bad (l : List UInt8) (h : Pd.allDig l = false) : ∃ k, ∃ h : k < l.length, Pd.isDig l[k] = false := by
  simp only [Pd.allDig] at h
  rw [← Bool.not_eq_true, List.all_eq_true] at h
  simp only [Classical.not_forall] at h
  obtain ⟨x, hx, hn⟩ := h
  obtain ⟨k, hk, rfl⟩ := List.getElem_of_mem hx
  exact ⟨k, hk, by simpa using hn⟩

theorem Pd.all_get (l : List UInt8) (k : Nat) (hk : k < l.length) (h : Pd.allDig l = true) : Pd.isDig l[k] = true := by
  simp only [Pd.allDig, List.all_eq_true] at h
  exact h _ (List.getElem_mem hk)

set_option maxHeartbeats 400000 in
theorem digits_any (s : ByteArray) (n : Int) (m : Nat) (hm : n = m) (hm2 : m ≤ 100) (w : World) :
    Calls Try.prog 22 #[.string s, .int .i64 n] w fun e w' => e = .returned (.bool (decide (s.size = m) && Pd.allDig s.data.toList)) ∧ w = w' := by
  subst hm
  by_cases hs : s.size = m
  · subst hs
    have hrt : decide (s.size = s.size) = true := by simp
    rw [hrt, Bool.true_and]
    go_enter Try.func22, Try.ntmps22
    go_wp2
    go_loop [5] (fun i => ∃ k : Nat, k ≤ s.size ∧ i = .int .i64 k ∧ Pd.allDig (s.data.toList.take k) = true) (fun i => s.size - (intOf i).toNat)
    case atStart => exact ⟨0, by omega, rfl, rfl⟩
    case round =>
      obtain ⟨k, hk, rfl, hd⟩ := hrel
      have HD := Lib.hid hd
      clear hd
      by_cases hlt : k < s.size
      · by_cases hdig : Pd.isDig s[k] = true
        · have hd' := (Pd.isDig_iff _).1 hdig
          have Y := Lib.hid (Pd.step_all s.data.toList k (by simpa using hlt) HD.out hdig)
          have hc1 : (48 : Int) ≤ (s[k].toNat : Int) := by omega
          have hc2 : (s[k].toNat : Int) ≤ 57 := by omega
          clear hd' hdig
          go_wp2
          go_round
          case rel => exact ⟨k + 1, by omega, by go_num, Y.out⟩
          case measure => simp [intOf]; omega
        · have hdf : Pd.isDig s[k] = false := by simpa using hdig
          have hr : (s[k].toNat : Int) < 48 ∨ 57 < (s[k].toNat : Int) := by
            have : ¬ (48 ≤ s[k].toNat ∧ s[k].toNat ≤ 57) := by rw [← Pd.isDig_iff]; simp [hdf]
            omega
          have HF := Lib.hid (Pd.not_allDig k (by simpa using hlt) hdf : Pd.allDig s.data.toList = false)
          clear hdf hdig
          rcases hr with hr | hr
          all_goals
            go_wp2
            go_ret
            exact ⟨ret_bool HF.out.symm, rfl⟩
      · have hke : k = s.size := by omega
        subst hke
        have hall : s.data.toList.take s.size = s.data.toList := List.take_of_length_le (by simp)
        have HF := Lib.hid (show Pd.allDig s.data.toList = true by rw [← hall]; exact HD.out)
        clear hall
        go_wp2
        go_ret
        exact ⟨ret_bool HF.out.symm, rfl⟩
  · have hne : ((s.size : Int) == (m : Int)) = false := by simp; omega
    have hrf : decide (s.size = m) = false := by simpa using hs
    rw [hrf, Bool.false_and]
    go_enter Try.func22, Try.ntmps22
    go_wp2
    go_ret
    exact ⟨rfl, rfl⟩

set_option maxHeartbeats 400000 in
/-- The reference's Digit computes 'dgt'. -/
theorem rdigit_any (s : ByteArray) (w : World) :
    Calls Try.prog 12 #[.string s] w fun e w' => e = .returned (.tuple #[.int .i64 (Pd.dgt s.data.toList).1, .int .i64 (Pd.dgt s.data.toList).2]) ∧ w = w' := by
  by_cases hyes : s.size = 12 ∧ Pd.allDig s.data.toList = true
  · obtain ⟨hs, ha⟩ := hyes
    have hlen : s.data.toList.length = 12 := by simpa using hs
    have hb : (decide (s.size = 12) && Pd.allDig s.data.toList) = true := by simp [hs, ha]
    have HB := Lib.hid hb
    have HF := Lib.hid (Pd.dgt_yes _ hlen ha)
    have HL := Lib.hid hlen
    have HA := Lib.hid ha
    clear hlen hb ha
    go_enter Try.func12, Try.ntmps12
    go_wp2_with fail
    refine (digits_any _ _ 12 rfl (by omega) _).mono ?_
    rw [HB.out]
    rintro e w' ⟨rfl, rfl⟩
    go_wp2
    go_loop [4, 5] (fun t i => ∃ k : Nat, k ≤ 12 ∧ i = .int .i64 k ∧ t = .int .i64 (Pd.wsum false (s.data.toList.take k))) (fun _ i => 12 - (intOf i).toNat)
    case atStart => exact ⟨0, by omega, rfl, rfl⟩
    case round =>
      obtain ⟨k, hk, rfl, rfl⟩ := hrel
      obtain ⟨hb0, hb1⟩ := Pd.wsum_take_bd _ _ hk (Pd.allDig_take HA.out k)
      by_cases hlt : k < 12
      · have hpl : k < s.size := by omega
        have hd' := (Pd.isDig_iff _).1 (Pd.all_get s.data.toList k (by simpa using hpl) HA.out)
        have hget : s.data.toList[k]'(by simpa using hpl) = s[k] := rfl
        rw [hget] at hd'
        have hc1 : (48 : Int) ≤ (s[k].toNat : Int) := by omega
        have hc2 : (s[k].toNat : Int) ≤ 57 := by omega
        clear hd'
        rcases Nat.mod_two_eq_zero_or_one k with hpar | hpar
        · have X := Pd.step0 s.data.toList k (by simpa using hpl) hpar
          rw [hget] at X
          have HX := Lib.hid X
          have hp0 : ((k : Int) % 2 == 1) = false := by simp; omega
          clear X hpar hget
          go_wp2
          go_round
          case rel => exact ⟨k + 1, by omega, by go_num, by rw [← HX.out]⟩
          case measure => simp [intOf]; omega
        · have X := Pd.step1 s.data.toList k (by simpa using hpl) hpar
          rw [hget] at X
          have HX := Lib.hid X
          have hp0 : ((k : Int) % 2 == 1) = true := by simp; omega
          clear X hpar hget
          go_wp2
          go_round
          case rel => exact ⟨k + 1, by omega, by go_num, by rw [← HX.out]⟩
          case measure => simp [intOf]; omega
      · have hke : k = 12 := by omega
        subst hke
        have hall : s.data.toList.take 12 = s.data.toList := List.take_of_length_le (by rw [HL.out]; omega)
        rw [hall] at hb0 hb1 ⊢
        clear hall
        go_wp2
        go_ret2
        exact ⟨ret_pair (HF.out.trans (by congr 1; omega)), rfl⟩
  · have hb : (decide (s.size = 12) && Pd.allDig s.data.toList) = false := by
      rw [Bool.eq_false_iff]; intro h; exact hyes (by simpa using h)
    have hF : Pd.dgt s.data.toList = (0, 3) := by
      unfold Pd.dgt; rw [if_neg (by rintro ⟨h1, h2⟩; exact hyes ⟨by simpa using h1, h2⟩)]
    have HB := Lib.hid hb
    have HF := Lib.hid hF
    clear hb hF hyes
    go_enter Try.func12, Try.ntmps12
    go_wp2_with fail
    refine (digits_any _ _ 12 rfl (by omega) _).mono ?_
    rw [HB.out]
    rintro e w' ⟨rfl, rfl⟩
    go_wp2
    go_ret2
    exact ⟨ret_pair HF.out, rfl⟩

set_option maxHeartbeats 400000 in
/-- The reference's Code computes 'cod'. -/
theorem rcode_any (s : ByteArray) (w : World) :
    Calls Try.prog 14 #[.string s] w fun e w' => e = .returned (.int .i64 (Pd.cod s.data.toList)) ∧ w = w' := by
  by_cases hyes : s.size = 13 ∧ Pd.allDig s.data.toList = true
  · obtain ⟨hs, ha⟩ := hyes
    have hlen : s.data.toList.length = 13 := by simpa using hs
    have HB := Lib.hid (show (decide (s.size = 13) && Pd.allDig s.data.toList) = true by simp [hs, ha])
    have HL := Lib.hid hlen
    have h12 : 12 < s.size := by omega
    have hget : s.data.toList[12]'(by simpa using h12) = s[12] := rfl
    have hd' := (Pd.isDig_iff _).1 (Pd.all_get s.data.toList 12 (by simpa using h12) ha)
    rw [hget] at hd'
    have hc1 : (48 : Int) ≤ (s[12].toNat : Int) := by omega
    have hc2 : (s[12].toNat : Int) ≤ 57 := by omega
    have hext := Pd.ext_list s 0 12 (by omega)
    simp only [List.drop_zero] at hext
    have HX := Lib.hid hext
    have hdg := Pd.dgt_yes (s.data.toList.take 12) (by rw [List.length_take, HL.out]; rfl) (Pd.allDig_take ha 12)
    have hch : (10 - Pd.wsum false (s.data.toList.take 12) % 10) % 10 = Pd.chk (s.data.toList.take 12) := rfl
    rw [hch] at hdg
    have HG := Lib.hid hdg
    have hbd := Pd.chk_bd (s.data.toList.take 12)
    by_cases he : Pd.chk (s.data.toList.take 12) = (s[12].toNat : Int) - 48
    · have HF := Lib.hid (Pd.cod_eq _ HL.out ha (by rw [hget]; exact he))
      have HE := Lib.hid (show ((s[12].toNat : Int) - 48 == Pd.chk (s.data.toList.take 12)) = true by simpa using he.symm)
      clear he hdg hch hget ha hd' hext hlen
      go_enter Try.func14, Try.ntmps14
      go_wp2_with fail
      refine (digits_any _ _ 13 rfl (by omega) _).mono ?_
      rw [HB.out]
      rintro e w' ⟨rfl, rfl⟩
      go_wp2_with fail
      refine (rdigit_any _ _).mono ?_
      rw [HX.out, HG.out]
      rintro e w' ⟨rfl, rfl⟩
      have he := HE.out
      go_wp2
      go_ret
      exact ⟨ret_int1 HF.out.symm, rfl⟩
    · have HF := Lib.hid (Pd.cod_ne _ HL.out ha (by rw [hget]; exact he))
      have HE := Lib.hid (show ((s[12].toNat : Int) - 48 == Pd.chk (s.data.toList.take 12)) = false by simpa using fun h => he h.symm)
      clear he hdg hch hget ha hd' hext hlen
      go_enter Try.func14, Try.ntmps14
      go_wp2_with fail
      refine (digits_any _ _ 13 rfl (by omega) _).mono ?_
      rw [HB.out]
      rintro e w' ⟨rfl, rfl⟩
      go_wp2_with fail
      refine (rdigit_any _ _).mono ?_
      rw [HX.out, HG.out]
      rintro e w' ⟨rfl, rfl⟩
      have he := HE.out
      go_wp2
      go_ret
      exact ⟨ret_int1 HF.out.symm, rfl⟩
  · have HB := Lib.hid (show (decide (s.size = 13) && Pd.allDig s.data.toList) = false by
      rw [Bool.eq_false_iff]; intro h; exact hyes (by simpa using h))
    have HF := Lib.hid (show Pd.cod s.data.toList = 3 by
      unfold Pd.cod; rw [if_neg (by rintro ⟨h1, h2⟩; exact hyes ⟨by simpa using h1, h2⟩)])
    clear hyes
    go_enter Try.func14, Try.ntmps14
    go_wp2_with fail
    refine (digits_any _ _ 13 rfl (by omega) _).mono ?_
    rw [HB.out]
    rintro e w' ⟨rfl, rfl⟩
    go_wp2
    go_ret
    exact ⟨ret_int1 HF.out.symm, rfl⟩
end Go.Proofs.Ytcplgplcmgbglaa
