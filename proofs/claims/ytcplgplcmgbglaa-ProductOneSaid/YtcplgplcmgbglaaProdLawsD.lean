/- The walk of the law ProductOne. -/
import Derived.Test.YtcplgplcmgbglaaProdLawsC
namespace Go.Proofs.Ytcplgplcmgbglaa
open Go.RowKit

theorem digs_at (k : Nat) (hk : k < 10) : ((ByteArray.mk #[48, 49, 50, 51, 52, 53, 54, 55, 56, 57]).extract k (k + 1)).data.toList = [UInt8.ofNat (48 + k)] := by
  have : ∀ k : Fin 10, ((ByteArray.mk #[48, 49, 50, 51, 52, 53, 54, 55, 56, 57]).extract k.1 (k.1 + 1)).data.toList = [UInt8.ofNat (48 + k.1)] := by decide
  exact this ⟨k, hk⟩

/-- What Code says of s with the digit k behind it. -/
theorem push_cod (s : ByteArray) (k : Nat) (hk : k < 10) : Pd.cod (s ++ (ByteArray.mk #[48, 49, 50, 51, 52, 53, 54, 55, 56, 57]).extract k (k + 1)).data.toList
    = if (Pd.dgt s.data.toList).2 = 0 then (if (Pd.dgt s.data.toList).1 = (k : Int) then 0 else 26) else 3 := by
  have e : (UInt8.ofNat (48 + k)).toNat = 48 + k := by rw [UInt8.toNat_ofNat']; omega
  have hd : Pd.isDig (UInt8.ofNat (48 + k)) = true := by rw [Pd.isDig_iff, e]; omega
  have := Pd.cod_push s.data.toList (UInt8.ofNat (48 + k)) hd
  rw [e] at this
  rw [ByteArray.data_append, Array.toList_append, digs_at k hk, this]
  simp only [show ((48 + k : Nat) : Int) - 48 = (k : Int) by omega]

set_option maxHeartbeats 1600000 in
theorem one_walk (s : ByteArray) (w : World) :
    Calls Try.prog 9 #[.string s] w fun e w' => e = .returned (.bool true) ∧ Below w.heap.size w w' := by
  have H1 := Lib.hid (digit_any s)
  by_cases hs : s.size ≤ 100
  · have H2 := Lib.hid (fun k (hk : k < 10) => (push_cod s k hk))
    have hr := Pd.dgt_range s.data.toList
    generalize Pd.dgt s.data.toList = de at H1 H2 hr
    obtain ⟨d, e⟩ := de
    simp only at H1 H2 hr
    rcases hr with ⟨rfl, hd0, hd9⟩ | ⟨rfl, rfl⟩
    · go_enter Try.func9, Try.ntmps9
      go_wp2_with fail
      refine (H1.out _).mono ?_
      rintro e w1 ⟨rfl, hb1⟩
      have HB1 := Lib.hid hb1
      clear hb1
      go_wp2
      go_loopw [5] (fun i wr => ∃ k : Nat, k ≤ 10 ∧ i = .int .i64 k ∧ Below w.heap.size w wr) (fun i _ => 10 - (intOf i).toNat)
      case atStart => exact ⟨0, by omega, rfl, HB1.out⟩
      case round =>
        obtain ⟨k, hk, rfl, hb⟩ := hrel
        have HB := Lib.hid hb
        clear hb
        by_cases hlt : k < 10
        · have hpc := H2.out k hlt
          simp only [if_true] at hpc
          have hca := code_any (s ++ (ByteArray.mk #[48, 49, 50, 51, 52, 53, 54, 55, 56, 57]).extract k (k + 1))
          have hcase : ((k : Int) == d) = true ∧ (if d = (k : Int) then (0 : Int) else 26) = 0 ∨ ((k : Int) == d) = false ∧ (if d = (k : Int) then (0 : Int) else 26) = 26 := by
            by_cases he : d = (k : Int)
            · exact .inl ⟨by simp [he], if_pos he⟩
            · exact .inr ⟨by simp; omega, if_neg he⟩
          have k1 : (k : Int) ≤ 10 := by omega
          have k2 : (k : Int) + 1 ≤ 10 := by omega
          have k3 : (0 : Int) ≤ (k : Int) + 1 := by omega
          rcases hcase with ⟨hb, hv⟩ | ⟨hb, hv⟩
          all_goals
            rw [hv] at hpc
            rw [hpc] at hca
            have HCA := Lib.hid hca
            clear hpc hca hv
            go_wp2_with fail
            refine (HCA.out _).mono ?_
            rintro e w2 ⟨rfl, hb2⟩
            go_wp2
            go_roundw
            case rel => exact ⟨k + 1, by omega, by go_num, on HB.out hb2⟩
            case measure => simp [intOf]; omega
        · have hke : k = 10 := by omega
          subst hke
          go_wp2_with fail
          refine (awake_any _).mono ?_
          rintro e w2 ⟨rfl, hb2⟩
          go_wp2
          go_ret
          exact ⟨rfl, on HB.out hb2⟩
    · go_enter Try.func9, Try.ntmps9
      go_wp2_with fail
      refine (H1.out _).mono ?_
      rintro e w1 ⟨rfl, hb1⟩
      have HB1 := Lib.hid hb1
      clear hb1
      go_wp2
      go_loopw [5] (fun i wr => ∃ k : Nat, k ≤ 10 ∧ i = .int .i64 k ∧ Below w.heap.size w wr) (fun i _ => 10 - (intOf i).toNat)
      case atStart => exact ⟨0, by omega, rfl, HB1.out⟩
      case round =>
        obtain ⟨k, hk, rfl, hb⟩ := hrel
        have HB := Lib.hid hb
        clear hb
        by_cases hlt : k < 10
        · have hpc := H2.out k hlt
          rw [if_neg (by decide)] at hpc
          have hca := code_any (s ++ (ByteArray.mk #[48, 49, 50, 51, 52, 53, 54, 55, 56, 57]).extract k (k + 1))
          have k1 : (k : Int) ≤ 10 := by omega
          have k2 : (k : Int) + 1 ≤ 10 := by omega
          have k3 : (0 : Int) ≤ (k : Int) + 1 := by omega
          rw [hpc] at hca
          have HCA := Lib.hid hca
          clear hpc hca
          go_wp2_with fail
          refine (HCA.out _).mono ?_
          rintro e w2 ⟨rfl, hb2⟩
          go_wp2
          go_roundw
          case rel => exact ⟨k + 1, by omega, by go_num, on HB.out hb2⟩
          case measure => simp [intOf]; omega
        · have hke : k = 10 := by omega
          subst hke
          go_wp2_with fail
          refine (awake_any _).mono ?_
          rintro e w2 ⟨rfl, hb2⟩
          go_wp2
          go_ret
          exact ⟨rfl, on HB.out hb2⟩
  · go_enter Try.func9, Try.ntmps9
    go_wp2_with fail
    refine (awake_any _).mono ?_
    rintro e w2 ⟨rfl, hb2⟩
    go_wp2
    go_ret
    exact ⟨rfl, hb2⟩
end Go.Proofs.Ytcplgplcmgbglaa
