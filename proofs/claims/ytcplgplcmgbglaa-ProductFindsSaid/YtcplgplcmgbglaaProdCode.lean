/- The walks of product.Code, and of the reference's digits, Digit and Code. -/
import Derived.Test.YtcplgplcmgbglaaProdDigit
namespace Go.Proofs.Ytcplgplcmgbglaa
open Go.RowKit

namespace Pd
theorem cod_len (l : List UInt8) (h : l.length ≠ 13) : cod l = 3 := by simp [cod, h]
theorem cod_no (l : List UInt8) (h : allDig l = false) : cod l = 3 := by simp [cod, h]
theorem allDig_13 (l : List UInt8) (h : l.length = 13) : allDig l = (allDig (l.take 12) && isDig (l[12]'(by omega))) := by
  have e : l = l.take 12 ++ [l[12]'(by omega)] := by
    rw [← take_snoc l 12 (by omega), List.take_of_length_le (by omega)]
  have := allDig_snoc (l.take 12) (l[12]'(by omega))
  rwa [← e] at this
theorem cod_eq (l : List UInt8) (h : l.length = 13) (ha : allDig l = true) (he : chk (l.take 12) = ((l[12]'(by omega)).toNat : Int) - 48) : cod l = 0 := by
  simp only [cod, h, ha, and_self, if_true, List.getElem?_eq_getElem (show 12 < l.length by omega), Option.getD_some, he]
theorem cod_ne (l : List UInt8) (h : l.length = 13) (ha : allDig l = true) (he : chk (l.take 12) ≠ ((l[12]'(by omega)).toNat : Int) - 48) : cod l = 26 := by
  simp only [cod, h, ha, and_self, if_true, List.getElem?_eq_getElem (show 12 < l.length by omega), Option.getD_some, he, if_false]
theorem ext_list (s : ByteArray) (a b : Nat) (_h : b ≤ s.size) : (s.extract a b).data.toList = (s.data.toList.take b).drop a := by
  simp [ByteArray.data_extract, List.extract, List.drop_take]
end Pd

set_option maxHeartbeats 400000 in
/-- product.Code computes 'cod'. -/
theorem code_any (s : ByteArray) (w : World) :
    Calls Try.prog 13 #[.string s] w fun e w' => e = .returned (.int .i64 (Pd.cod s.data.toList)) ∧ Below w.heap.size w w' := by
  by_cases hs : s.size = 13
  · have hlen : s.data.toList.length = 13 := by simpa using hs
    have HL := Lib.hid hlen; clear hlen
    have h12 : 12 < s.size := by omega
    have hget : s.data.toList[12]'(by simpa using h12) = s[12] := rfl
    by_cases hd : Pd.isDig s[12] = true
    · have hd' := (Pd.isDig_iff _).1 hd
      have hc1 : (48 : Int) ≤ (s[12].toNat : Int) := by omega
      have hc2 : (s[12].toNat : Int) ≤ 57 := by omega
      have hext := Pd.ext_list s 0 12 (by omega)
      simp only [List.drop_zero] at hext
      have HX := Lib.hid hext
      clear hext hd'
      by_cases ha : Pd.allDig (s.data.toList.take 12) = true
      · have hdg := Pd.dgt_yes (s.data.toList.take 12) (by rw [List.length_take, HL.out]; rfl) ha
        have hch : (10 - Pd.wsum false (s.data.toList.take 12) % 10) % 10 = Pd.chk (s.data.toList.take 12) := rfl
        rw [hch] at hdg
        have hall : Pd.allDig s.data.toList = true := by rw [Pd.allDig_13 _ HL.out, ha, hget, hd]; rfl
        have HG := Lib.hid hdg
        have hbd := Pd.chk_bd (s.data.toList.take 12)
        by_cases he : Pd.chk (s.data.toList.take 12) = (s[12].toNat : Int) - 48
        · have HF := Lib.hid (Pd.cod_eq _ HL.out hall (by rw [hget]; exact he))
          have he' : (Pd.chk (s.data.toList.take 12) == (s[12].toNat : Int) - 48) = true := by simpa using he
          have HE := Lib.hid he'
          clear he he' hdg hall hch hget ha hd
          go_enter Try.func13, Try.ntmps13
          go_wp2_with fail
          refine (digit_any _ _).mono ?_
          rw [HX.out, HG.out]
          rintro e w' ⟨rfl, hb⟩
          have he := HE.out
          go_wp2
          go_ret
          exact ⟨ret_int1 HF.out.symm, hb⟩
        · have HF := Lib.hid (Pd.cod_ne _ HL.out hall (by rw [hget]; exact he))
          have he' : (Pd.chk (s.data.toList.take 12) == (s[12].toNat : Int) - 48) = false := by simpa using he
          have HE := Lib.hid he'
          clear he he' hdg hall hch hget ha hd
          go_enter Try.func13, Try.ntmps13
          go_wp2_with fail
          refine (digit_any _ _).mono ?_
          rw [HX.out, HG.out]
          rintro e w' ⟨rfl, hb⟩
          have he := HE.out
          go_wp2
          go_ret
          exact ⟨ret_int1 HF.out.symm, hb⟩
      · have ha' : Pd.allDig (s.data.toList.take 12) = false := by simpa using ha
        have HG := Lib.hid (Pd.dgt_no _ ha')
        have HF := Lib.hid (Pd.cod_no s.data.toList (by rw [Pd.allDig_13 _ HL.out, ha']; rfl))
        clear ha ha' hd hget
        go_enter Try.func13, Try.ntmps13
        go_wp2_with fail
        refine (digit_any _ _).mono ?_
        rw [HX.out, HG.out]
        rintro e w' ⟨rfl, hb⟩
        go_wp2
        go_ret
        exact ⟨ret_int1 HF.out.symm, hb⟩
    · have hdf : Pd.isDig s[12] = false := by simpa using hd
      have hr : (s[12].toNat : Int) < 48 ∨ 57 < (s[12].toNat : Int) := by
        have : ¬ (48 ≤ s[12].toNat ∧ s[12].toNat ≤ 57) := by rw [← Pd.isDig_iff]; simp [hdf]
        omega
      have HF := Lib.hid (Pd.cod_no s.data.toList (Pd.not_allDig 12 (by simpa using h12) (by rw [hget]; exact hdf)))
      clear hd hdf hget
      rcases hr with hr | hr
      all_goals
        go_enter Try.func13, Try.ntmps13
        go_wp2
        go_ret
        exact ⟨ret_int1 HF.out.symm, Below.refl _ _⟩
  · have hne : ((s.size : Int) == 13) = false := by simp; omega
    have HF := Lib.hid (Pd.cod_len s.data.toList (by simpa using hs))
    go_enter Try.func13, Try.ntmps13
    go_wp2
    go_ret
    exact ⟨ret_int1 HF.out.symm, Below.refl _ _⟩
end Go.Proofs.Ytcplgplcmgbglaa
