/- The walk of the law ProductSwap. -/
import Derived.Test.YtcplgplcmgbglaaProdLawsB
namespace Go.Proofs.Ytcplgplcmgbglaa
open Go.RowKit

/-- 'string([]byte{c, d})'. -/
theorem conv2 (w1 : World) (n : Nat) (c d : UInt8) : (convert 38 9 (.slice (some ⟨w1.heap.size, 0, none⟩) 2 2)).run Try.prog ((w1.drewN n).alloc (.cells #[.int .u8 (c.toNat : Int), .int .u8 (d.toNat : Int)] 5)) = .ok (.string ⟨#[c, d]⟩) ((w1.drewN n).alloc (.cells #[.int .u8 (c.toNat : Int), .int .u8 (d.toNat : Int)] 5)) := by
  have := run_convert_bytes_back (P := Try.prog) ((w1.drewN n).alloc (.cells #[.int .u8 (c.toNat : Int), .int .u8 (d.toNat : Int)] 5)) 38 9 5 ⟨w1.heap.size, 0, none⟩ 2 [c, d] Try.underlying38 Try.underlying5 Try.underlying9 (by
    intro j hj
    have hj0 : j = 0 ∨ j = 1 := by simp at hj; omega
    have hw := heap_alloc_new (w1.drewN n) (.cells #[.int .u8 (c.toNat : Int), .int .u8 (d.toNat : Int)] 5)
    rcases hj0 with rfl | rfl
    all_goals
      show World.cell? _ ⟨(w1.drewN n).heap.size, _, none⟩ = _
      unfold World.cell?
      simp only
      rw [hw]
      simp)
  exact this
theorem w64_byte (x : UInt8) : wrap64 (x.toNat : Int) = (x.toNat : Int) := IntWalk.wrap64_in _ (by have := x.toNat_lt; omega)
theorem w64_sub (x y : UInt8) : wrap64 ((x.toNat : Int) - (y.toNat : Int)) = (x.toNat : Int) - (y.toNat : Int) := IntWalk.wrap64_in _ (by have := x.toNat_lt; have := y.toNat_lt; omega)

set_option maxHeartbeats 1600000 in
theorem swap_walk (s : ByteArray) (pos : Int) (w : World) (a1 : 0 ≤ pos) (a2 : pos ≤ 255) :
    Calls Try.prog 8 #[.string s, .int .u8 pos] w fun e w' => e = .returned (.bool true) ∧ Below w.heap.size w w' := by
  have H1 := Lib.hid (code_any s)
  by_cases hc : Pd.cod s.data.toList = 0
  · have hz := Pd.cod_zero hc
    have hs : s.size = 13 := by simpa using hz.1
    obtain ⟨i, hi⟩ : ∃ i : Nat, pos % 12 = (i : Int) := ⟨(pos % 12).toNat, by omega⟩
    have hi12 : i + 1 < s.size := by omega
    have hi13 : i < s.size := by omega
    have hil : i + 1 < s.data.toList.length := by simpa using hi12
    have hch := Pd.cod_swap (s.data.toList.take i) (s.data.toList.drop (i + 2)) (s.data.toList[i]) (s.data.toList[i + 1]) (by rw [← around2 _ _ hil]; exact hc)
    have hgl := glue s ⟨#[s[i + 1], s[i]]⟩ i (i + 2) hs (by omega)
    have hget : s.data.toList[i] = s[i] := rfl
    have hget' : s.data.toList[i + 1] = s[i + 1] := rfl
    have H2 : ∀ w, Calls Try.prog 13 #[.string (s.extract 0 i ++ ⟨#[s[i + 1], s[i]]⟩ ++ s.extract (i + 2) 13)] w fun e w' => e = .returned (.int .i64 (if ((s[i].toNat : Int) - (s[i + 1].toNat : Int)) % 5 = 0 then 0 else 26)) ∧ Below w.heap.size w w' := by
      intro w
      have := code_any (s.extract 0 i ++ ⟨#[s[i + 1], s[i]]⟩ ++ s.extract (i + 2) 13) w
      rw [hgl] at this
      rw [hget, hget'] at hch
      rw [← hch]
      exact this
    rw [hc] at H1
    clear hz hc hch hgl hget hget'
    obtain ⟨c, hcc⟩ : ∃ c, c = s[i] := ⟨_, rfl⟩
    obtain ⟨d, hdd⟩ : ∃ d, d = s[i + 1] := ⟨_, rfl⟩
    have hcase : ((((c.toNat : Int) - (d.toNat : Int)).tmod 5) == 0) = true ∧ (if ((c.toNat : Int) - (d.toNat : Int)) % 5 = 0 then (0 : Int) else 26) = 0 ∨ ((((c.toNat : Int) - (d.toNat : Int)).tmod 5) == 0) = false ∧ (if ((c.toNat : Int) - (d.toNat : Int)) % 5 = 0 then (0 : Int) else 26) = 26 := by
      by_cases he : ((c.toNat : Int) - (d.toNat : Int)) % 5 = 0
      · exact .inl ⟨by rw [beq_iff_eq]; exact Int.tmod_eq_zero_of_dvd (Int.dvd_of_emod_eq_zero he), if_pos he⟩
      · exact .inr ⟨by rw [beq_eq_false_iff_ne]; exact fun h => he (Int.emod_eq_zero_of_dvd (Int.dvd_of_tmod_eq_zero h)), if_neg he⟩
    rcases hcase with ⟨hb, hv⟩ | ⟨hb, hv⟩
    all_goals
      subst hcc hdd
      rw [hv] at H2
      clear hv
      have H2 := Lib.hid H2
      go_enter Try.func8, Try.ntmps8
      go_wp2_with fail
      refine (H1.out _).mono ?_
      rintro e w1 ⟨rfl, hb1⟩
      go_wp2_with fail
      have i1 : (i : Int) ≤ 13 := by omega
      have i2 : (0 : Int) ≤ (i : Int) := by omega
      have i3 : (i : Int) + 2 ≤ 13 := by omega
      have i4 : (0 : Int) ≤ (i : Int) + 2 := by omega
      have i5 : IntKind.i64.wrap ((i : Int) + 2) = (i : Int) + 2 := IntWalk.i64_in _ (by omega)
      have i6 : ((i : Int) + 2).toNat = i + 2 := by omega
      have j3 : (i : Int) + 1 < 13 := by omega
      have j4 : (0 : Int) ≤ (i : Int) + 1 := by omega
      have j5 : IntKind.i64.wrap ((i : Int) + 1) = (i : Int) + 1 := IntWalk.i64_in _ (by omega)
      have j6 : ((i : Int) + 1).toNat = i + 1 := by omega
      have j7 : (i : Int) < 13 := by omega
      have k1 := w64_byte s[i]
      have k2 := w64_byte s[i + 1]
      have k3 := w64_sub s[i] s[i + 1]
      go_quiet (fail)
      go_wp2_with fail
      clear k1 k2 k3
      have hcv := conv2 w1 (nq + 1) s[i + 1] s[i]
      go_region_with (first
        | (go_at_call 13; refine (H2.out _).mono ?_; rintro e w2 ⟨rfl, hb2⟩)
        | (go_at_call 10; refine (awake_any _).mono ?_; rintro e w3 ⟨rfl, hb3⟩))
      all_goals
        go_wp2
        go_ret
        exact ⟨rfl, on (on (on (below_drewN hb1 (nq + 1)) (below_new _ _)) hb2) hb3⟩
  · have hz := beq_f hc
    generalize Pd.cod s.data.toList = c at H1 hz
    go_enter Try.func8, Try.ntmps8
    go_wp2_with fail
    refine (H1.out _).mono ?_
    rintro e w1 ⟨rfl, hb1⟩
    go_wp2_with fail
    refine (awake_any _).mono ?_
    rintro e w2 ⟨rfl, hb2⟩
    go_wp2
    go_ret
    exact ⟨rfl, on hb1 hb2⟩
end Go.Proofs.Ytcplgplcmgbglaa
