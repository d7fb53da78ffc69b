/- The walks of TakeInt, length, TakeText. -/
import Derived.Test.YtcpdfgckfefboaaWireTake
namespace Go.Proofs.Ytcpdfgckfefboaa
open Go.RowKit

namespace Wp
theorem tk_lt : ∀ (l : List UInt8) (k acc : Nat), k ≤ 10 → (k ≤ 9 → acc < 128 ^ k) → (tk k acc l).1 < 18446744073709551616 := by
  intro l
  induction l with
  | nil => intro k acc _ _; unfold tk; split <;> simp
  | cons c r ih =>
    intro k acc hk10 h
    have hc : c.toNat < 256 := c.toNat_lt
    by_cases h10 : k = 10
    · subst h10; rw [tk_full]; simp
    · have hk : k ≤ 9 := by omega
      have ha := h hk
      have h9 : 128 ^ k ≤ 128 ^ 9 := Nat.pow_le_pow_right (by decide) hk
      have h9' : (128 : Nat) ^ 9 = 9223372036854775808 := by decide
      by_cases hbig : 128 ≤ c.toNat
      · rw [tk_more k acc c r h10 hbig]
        refine ih _ _ (by omega) (fun h8 => ?_)
        have h2 : (c.toNat % 128) * 128 ^ k ≤ 127 * 128 ^ k := Nat.mul_le_mul_right _ (by omega)
        rw [Nat.pow_succ]
        omega
      · by_cases h1 : k = 9 ∧ 1 < c.toNat
        · rw [tk_over k acc c r h1.1 hbig h1.2]; simp
        · by_cases h0 : 0 < k ∧ c.toNat = 0
          · rw [tk_form k acc c r (by omega) h0.1 h0.2]; simp
          · rw [tk_ok k acc c r (by omega) hbig h1 h0]
            simp only
            by_cases hk8 : k ≤ 8
            · have h8 : 128 ^ k ≤ 128 ^ 8 := Nat.pow_le_pow_right (by decide) hk8
              have h8' : (128 : Nat) ^ 8 = 72057594037927936 := by decide
              have h2 : c.toNat * 128 ^ k ≤ 127 * 128 ^ k := Nat.mul_le_mul_right _ (by omega)
              omega
            · have h2 : c.toNat * 128 ^ k ≤ 1 * 128 ^ 9 := Nat.mul_le_mul (by omega) h9
              omega
theorem takeU_lt (l : List UInt8) : (takeU l).1 < 18446744073709551616 := tk_lt l 0 0 (by omega) (by simp)
theorem unzz_bd (u : Nat) (h : u < 18446744073709551616) : -9223372036854775808 ≤ unzz u ∧ unzz u ≤ 9223372036854775807 := by unfold unzz; split <;> omega
theorem xori0 (a : Int) (h1 : 0 ≤ a) (h2 : a < 9223372036854775808) : bits .xor .i64 a 0 = a := by
  show IntKind.i64.wrap ((BitVec.ofInt 64 a ^^^ BitVec.ofInt 64 0).toNat : Int) = a
  have e : BitVec.ofInt 64 a ^^^ BitVec.ofInt 64 0 = BitVec.ofInt 64 a := by
    have : BitVec.ofInt 64 0 = 0#64 := rfl
    rw [this, BitVec.xor_zero]
  rw [e, BitVec.toNat_ofInt, IntKind.wrap_i64]
  omega
theorem xori1 (a : Int) (h1 : 0 ≤ a) (h2 : a < 9223372036854775808) : bits .xor .i64 a (-1) = -a - 1 := by
  show IntKind.i64.wrap ((BitVec.ofInt 64 a ^^^ BitVec.ofInt 64 (-1)).toNat : Int) = -a - 1
  have e : (BitVec.ofInt 64 a ^^^ BitVec.ofInt 64 (-1)) = ~~~ BitVec.ofInt 64 a := by
    have : BitVec.ofInt 64 (-1) = BitVec.allOnes 64 := rfl
    rw [this]
    exact BitVec.xor_allOnes
  rw [e, BitVec.toNat_not, BitVec.toNat_ofInt, IntKind.wrap_i64]
  omega
theorem and1 (u : Nat) (h : u < 18446744073709551616) : bits .and .u64 (u : Int) 1 = ((u % 2 : Nat) : Int) := by
  have e : bits .and .u64 (u : Int) 1 = ((u &&& 1 : Nat) : Int) := u64_and_nat u 1 h (by omega)
  rw [e, nat_mask1]
theorem takeI_ok (l : List UInt8) (h : (takeU l).2.2 = 0) : takeI l = (unzz (takeU l).1, (takeU l).2.1, 0) := by simp [takeI, h]
theorem takeI_bad (l : List UInt8) (h : (takeU l).2.2 ≠ 0) : takeI l = (0, 0, (takeU l).2.2) := by simp [takeI, h]
theorem takeI_bd (l : List UInt8) : (takeI l).2.1 ≤ l.length ∧ ((takeI l).2.2 = 0 → 1 ≤ (takeI l).2.1) ∧ -9223372036854775808 ≤ (takeI l).1 ∧ (takeI l).1 ≤ 9223372036854775807 := by
  have h1 := takeU_bd l
  have h2 := unzz_bd _ (takeU_lt l)
  by_cases h : (takeU l).2.2 = 0
  · rw [takeI_ok l h]
    exact ⟨h1.1, fun _ => h1.2 h, h2.1, h2.2⟩
  · rw [takeI_bad l h]
    simp [h]
end Wp

theorem ret_takei {u : Int} {k : Nat} {e : Int} {u' k' e' : Int} {p : Int × Nat × Int} (h : p = (u, k, e)) (hu : u' = u) (hk : k' = k) (he : e' = e) :
    Ending.returned (.tuple #[.int .i64 u', .int .i64 k', .int .i64 e']) = .returned (.tuple #[.int .i64 p.1, .int .i64 (p.2.1 : Int), .int .i64 p.2.2]) := by
  rw [h, hu, hk, he]

set_option maxRecDepth 100000 in
set_option maxHeartbeats 800000 in
theorem takeint_any (A : Option Addr) (n cap : Nat) (l : List UInt8) (hn : n = l.length) (w : World) (hr : Rd w A (bv l)) (hl : l.length ≤ 1000000000000) :
    Calls Try.prog 55 #[.slice A n cap] w fun e w' => e = .returned (.tuple #[.int .i64 (Wp.takeI l).1, .int .i64 ((Wp.takeI l).2.1 : Int), .int .i64 (Wp.takeI l).2.2]) ∧ w = w' := by
  have HU := Lib.hid (takeuint_any A n cap l hn w hr hl)
  clear hr hn
  by_cases h : (Wp.takeU l).2.2 = 0
  · have HF := Lib.hid (Wp.takeI_ok l h)
    have hlt := Wp.takeU_lt l
    rw [h] at HU
    generalize (Wp.takeU l).1 = u at HU HF hlt
    generalize (Wp.takeU l).2.1 = k at HU HF
    clear h
    have ha := Wp.and1 u hlt
    have hlt' : (u : Int) < 18446744073709551616 := by omega
    rcases Nat.mod_two_eq_zero_or_one u with hm | hm
    · have hx := Wp.xori0 ((u : Int) / 2) (by omega) (by omega)
      have HV := Lib.hid (show (u : Int) / 2 = Wp.unzz u by unfold Wp.unzz; rw [if_pos hm]; omega)
      rw [hm] at ha
      clear hm hlt
      go_enter Try.func55, Try.ntmps55
      go_wp2_with fail
      refine HU.out.mono ?_
      rintro e w' ⟨rfl, rfl⟩
      go_wp2
      go_ret3
      exact ⟨ret_takei HF.out HV.out rfl rfl, rfl⟩
    · have hx := Wp.xori1 ((u : Int) / 2) (by omega) (by omega)
      have HV := Lib.hid (show -((u : Int) / 2) - 1 = Wp.unzz u by unfold Wp.unzz; rw [if_neg (by omega)]; omega)
      rw [hm] at ha
      clear hm hlt
      go_enter Try.func55, Try.ntmps55
      go_wp2_with fail
      refine HU.out.mono ?_
      rintro e w' ⟨rfl, rfl⟩
      go_wp2
      go_ret3
      exact ⟨ret_takei HF.out HV.out rfl rfl, rfl⟩
  · have HF := Lib.hid (Wp.takeI_bad l h)
    have hz := beq_f h
    generalize (Wp.takeU l).2.2 = e at HU HF hz
    clear h
    go_enter Try.func55, Try.ntmps55
    go_wp2_with fail
    refine HU.out.mono ?_
    rintro e w' ⟨rfl, rfl⟩
    go_wp2
    go_ret3
    exact ⟨ret_takei HF.out rfl rfl rfl, rfl⟩

set_option maxRecDepth 100000 in
set_option maxHeartbeats 800000 in
theorem length_any (A : Option Addr) (n cap : Nat) (l : List UInt8) (hn : n = l.length) (most : Int) (m1 : -9223372036854775808 ≤ most) (m2 : most ≤ 9223372036854775807) (w : World) (hr : Rd w A (bv l)) (hl : l.length ≤ 1000000000000) :
    Calls Try.prog 62 #[.slice A n cap, .int .i64 most] w fun e w' => e = .returned (.tuple #[.int .i64 (Wp.takeL l most).1, .int .i64 ((Wp.takeL l most).2.1 : Int), .int .i64 (Wp.takeL l most).2.2]) ∧ w = w' := by
  have HU := Lib.hid (takeuint_any A n cap l hn w hr hl)
  clear hr hn
  by_cases h : (Wp.takeU l).2.2 = 0
  · have hlt := Wp.takeU_lt l
    by_cases hm : most < 0
    · have HF := Lib.hid (show Wp.takeL l most = (0, 0, 8) by unfold Wp.takeL; rw [if_pos h, if_pos (.inl hm)])
      rw [h] at HU
      generalize (Wp.takeU l).1 = u at HU
      generalize (Wp.takeU l).2.1 = k at HU
      clear h hlt
      go_enter Try.func62, Try.ntmps62
      go_wp2_with fail
      refine HU.out.mono ?_
      rintro e w' ⟨rfl, rfl⟩
      go_wp2
      go_ret3
      exact ⟨ret_takei HF.out rfl rfl rfl, rfl⟩
    · by_cases hu : most < ((Wp.takeU l).1 : Int)
      · have HF := Lib.hid (show Wp.takeL l most = (0, 0, 8) by unfold Wp.takeL; rw [if_pos h, if_pos (.inr hu)])
        rw [h] at HU
        generalize (Wp.takeU l).1 = u at HU hu
        generalize (Wp.takeU l).2.1 = k at HU
        clear h hlt
        go_enter Try.func62, Try.ntmps62
        go_wp2_with fail
        refine HU.out.mono ?_
        rintro e w' ⟨rfl, rfl⟩
        go_wp2
        go_ret3
        exact ⟨ret_takei HF.out rfl rfl rfl, rfl⟩
      · have HF := Lib.hid (show Wp.takeL l most = (((Wp.takeU l).1 : Int), (Wp.takeU l).2.1, 0) by unfold Wp.takeL; rw [if_pos h, if_neg (by omega)])
        rw [h] at HU
        generalize (Wp.takeU l).1 = u at HU HF hu
        generalize (Wp.takeU l).2.1 = k at HU HF
        clear h hlt
        have hu' : (u : Int) ≤ most := by omega
        have hm' : 0 ≤ most := by omega
        clear hu hm
        go_enter Try.func62, Try.ntmps62
        go_wp2_with fail
        refine HU.out.mono ?_
        rintro e w' ⟨rfl, rfl⟩
        go_wp2
        go_ret3
        exact ⟨ret_takei HF.out rfl rfl rfl, rfl⟩
  · have HF := Lib.hid (show Wp.takeL l most = (0, 0, (Wp.takeU l).2.2) by unfold Wp.takeL; rw [if_neg h])
    have hz := beq_f h
    generalize (Wp.takeU l).2.2 = e at HU HF hz
    clear h
    go_enter Try.func62, Try.ntmps62
    go_wp2_with fail
    refine HU.out.mono ?_
    rintro e w' ⟨rfl, rfl⟩
    go_wp2
    go_ret3
    exact ⟨ret_takei HF.out rfl rfl rfl, rfl⟩
end Go.Proofs.Ytcpdfgckfefboaa
