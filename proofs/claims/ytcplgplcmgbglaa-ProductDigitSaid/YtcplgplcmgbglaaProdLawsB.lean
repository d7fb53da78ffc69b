/- The walks of the laws ProductDigit, ProductSwap, ProductOne. -/
import Derived.Test.YtcplgplcmgbglaaProdLaws
import Derived.Test.YtcplgplcmgbglaaProdPlainB
import Derived.Laws.IdiomStrings
import Derived.Deep.RegionHeld3
namespace Go.Proofs.Ytcplgplcmgbglaa
open Go.RowKit

/-- 'string([]byte{c})'. -/
theorem conv1 (w1 : World) (c : UInt8) : (convert 38 9 (.slice (some ⟨w1.heap.size, 0, none⟩) 1 1)).run Try.prog (w1.alloc (.cells #[.int .u8 (c.toNat : Int)] 5)).drew = .ok (.string ⟨#[c]⟩) (w1.alloc (.cells #[.int .u8 (c.toNat : Int)] 5)).drew := by
  have := run_convert_bytes_back (P := Try.prog) (w1.alloc (.cells #[.int .u8 (c.toNat : Int)] 5)).drew 38 9 5 ⟨w1.heap.size, 0, none⟩ 1 [c] Try.underlying38 Try.underlying5 Try.underlying9 (by
    intro j hj
    have hj0 : j = 0 := by simpa using hj
    subst hj0
    unfold Addr.add World.cell? World.drew
    simp only [if_true]
    rw [heap_alloc_new]
    simp)
  exact this

/-- A list around its element i. -/
theorem around (l : List UInt8) (i : Nat) (h : i < l.length) : l = l.take i ++ l[i] :: l.drop (i + 1) := by
  rw [← List.drop_eq_getElem_cons h, List.take_append_drop]
theorem around2 (l : List UInt8) (i : Nat) (h : i + 1 < l.length) : l = l.take i ++ l[i] :: l[i + 1] :: l.drop (i + 2) := by
  rw [← List.drop_eq_getElem_cons h, ← List.drop_eq_getElem_cons (by omega), List.take_append_drop]
theorem glue (s m : ByteArray) (i j : Nat) (hs : s.size = 13) (hi : i ≤ 13) : (s.extract 0 i ++ m ++ s.extract j 13).data.toList = s.data.toList.take i ++ (m.data.toList ++ s.data.toList.drop j) := by
  have h1 := Pd.ext_list s 0 i (by omega)
  have h2 := Pd.ext_list s j 13 (by omega)
  simp only [ByteArray.data_append, Array.toList_append, h1, h2, List.drop_zero, List.append_assoc]
  rw [List.take_of_length_le (by simp [hs] : s.data.toList.length ≤ 13)]

set_option maxHeartbeats 1600000 in
theorem digit_walk (s : ByteArray) (pos dg : Int) (w : World) (a1 : 0 ≤ pos) (a2 : pos ≤ 255) (d1 : 0 ≤ dg) (d2 : dg ≤ 255) :
    Calls Try.prog 7 #[.string s, .int .u8 pos, .int .u8 dg] w fun e w' => e = .returned (.bool true) ∧ Below w.heap.size w w' := by
  have H1 := Lib.hid (code_any s)
  by_cases hc : Pd.cod s.data.toList = 0
  · have hz := Pd.cod_zero hc
    have hs : s.size = 13 := by simpa using hz.1
    obtain ⟨i, hi⟩ : ∃ i : Nat, pos % 13 = (i : Int) := ⟨(pos % 13).toNat, by omega⟩
    have hi13 : i < s.size := by omega
    obtain ⟨c, hcd⟩ : ∃ c : UInt8, 48 + dg % 10 = (c.toNat : Int) := ⟨UInt8.ofNat (48 + dg % 10).toNat, by
      rw [UInt8.toNat_ofNat']; omega⟩
    have hdc : Pd.isDig c = true := by rw [Pd.isDig_iff]; omega
    have hil : i < s.data.toList.length := by simpa using hi13
    have hch := Pd.cod_change (s.data.toList.take i) (s.data.toList.drop (i + 1)) (s.data.toList[i]) c (by rw [← around _ _ hil]; exact hc) hdc
    have hgl := glue s ⟨#[c]⟩ i (i + 1) hs (by omega)
    have hget : s.data.toList[i] = s[i] := rfl
    have H2 : ∀ w, Calls Try.prog 13 #[.string (s.extract 0 i ++ ⟨#[c]⟩ ++ s.extract (i + 1) 13)] w fun e w' => e = .returned (.int .i64 (if s[i].toNat = c.toNat then 0 else 26)) ∧ Below w.heap.size w w' := by
      intro w
      have := code_any (s.extract 0 i ++ ⟨#[c]⟩ ++ s.extract (i + 1) 13) w
      rw [hgl] at this
      rw [hget] at hch
      rw [← hch]
      exact this
    rw [hc] at H1
    clear hz hc hch hgl hget hdc
    have hcase : ((s[i].toNat : Int) == (c.toNat : Int)) = true ∧ (if s[i].toNat = c.toNat then (0 : Int) else 26) = 0 ∨ ((s[i].toNat : Int) == (c.toNat : Int)) = false ∧ (if s[i].toNat = c.toNat then (0 : Int) else 26) = 26 := by
      by_cases he : s[i].toNat = c.toNat
      · exact .inl ⟨by simp [he], if_pos he⟩
      · exact .inr ⟨by simp; omega, if_neg he⟩
    rcases hcase with ⟨hb, hv⟩ | ⟨hb, hv⟩
    all_goals
      rw [hv] at H2
      clear hv
      have H2 := Lib.hid H2
      go_enter Try.func7, Try.ntmps7
      go_wp2_with fail
      refine (H1.out _).mono ?_
      rintro e w1 ⟨rfl, hb1⟩
      go_wp2_with fail
      have hcv := conv1 w1 c
      have i1 : (i : Int) ≤ 13 := by omega
      have i2 : (0 : Int) ≤ (i : Int) := by omega
      have i3 : (i : Int) + 1 ≤ 13 := by omega
      have i4 : (0 : Int) ≤ (i : Int) + 1 := by omega
      have i5 : IntKind.i64.wrap ((i : Int) + 1) = (i : Int) + 1 := IntWalk.i64_in _ (by omega)
      have i6 : ((i : Int) + 1).toNat = i + 1 := by omega
      go_region_with (first
        | (go_at_call 13; refine (H2.out _).mono ?_; rintro e w2 ⟨rfl, hb2⟩)
        | (go_at_call 10; refine (awake_any _).mono ?_; rintro e w3 ⟨rfl, hb3⟩))
      all_goals
        go_wp2
        go_ret
        exact ⟨rfl, on (on (on hb1 (below_new _ _).drew) hb2) hb3⟩
  · have hz := beq_f hc
    generalize Pd.cod s.data.toList = c at H1 hz
    go_enter Try.func7, Try.ntmps7
    go_wp2_with fail
    refine (H1.out _).mono ?_
    rintro e w1 ⟨rfl, hb1⟩
    go_wp2_with fail
    refine (awake_any _).mono ?_
    rintro e w2 ⟨rfl, hb2⟩
    go_wp2
    go_ret
    exact ⟨rfl, on hb1 hb2⟩
end Go.Proofs.Ytcplgplcmgbglaa
