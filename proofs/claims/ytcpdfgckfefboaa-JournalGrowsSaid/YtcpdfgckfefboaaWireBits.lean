/- The bit operations of the wire encoding; the walk of zigzag. -/
import Derived.Test.YtcpdfgckfefboaaMem
import Derived.Test.YtcpdfgckfefboaaWirePlain
namespace Go.Proofs.Ytcpdfgckfefboaa
open Go.RowKit

namespace Wp
theorem xor_zero64 (a : Int) (h1 : 0 ≤ a) (h2 : a < 18446744073709551616) : bits .xor .u64 a 0 = a := by
  rw [u64_xor a 0 h1 h2 (by omega) (by omega)]
  simp
  omega
theorem xor_ones64 (a : Nat) (h : a < 18446744073709551616) : bits .xor .u64 (a : Int) 18446744073709551615 = 18446744073709551615 - (a : Int) := by
  have e0 : bits .xor .u64 (a : Int) 18446744073709551615 = ((a ^^^ 18446744073709551615 : Nat) : Int) := u64_xor_nat a 18446744073709551615 h (by omega)
  rw [e0]
  have e : a ^^^ 18446744073709551615 = 18446744073709551615 - a := by
    have hx : (BitVec.ofNat 64 a ^^^ BitVec.allOnes 64) = ~~~ BitVec.ofNat 64 a := BitVec.xor_allOnes
    have h2 := congrArg BitVec.toNat hx
    rw [BitVec.toNat_xor, BitVec.toNat_not, BitVec.toNat_ofNat, Nat.mod_eq_of_lt (by omega), BitVec.toNat_allOnes] at h2
    simpa using h2
  rw [e]
  omega
theorem zz_pos (n : Int) (h0 : 0 ≤ n) (h2 : n ≤ 9223372036854775807) : bits .xor .u64 (n * 2) (n / 9223372036854775808) = (zz n : Int) := by
  rw [show n / 9223372036854775808 = 0 by omega, xor_zero64 _ (by omega) (by omega)]
  unfold zz
  rw [if_pos h0]
  omega
theorem zz_neg (n : Int) (h0 : n < 0) (h1 : -9223372036854775808 ≤ n) : bits .xor .u64 (IntKind.u64.wrap (IntKind.u64.wrap n * 2)) (IntKind.u64.wrap (n / 9223372036854775808)) = (zz n : Int) := by
  simp only [IntKind.wrap_u64]
  have e1 : n / 9223372036854775808 % 18446744073709551616 = 18446744073709551615 := by omega
  have e2 : n % 18446744073709551616 * 2 % 18446744073709551616 = ((2 * n + 18446744073709551616).toNat : Int) := by omega
  rw [e1, e2, xor_ones64 _ (by omega)]
  unfold zz
  rw [if_neg (by omega)]
  omega
theorem zz_lt (n : Int) (h1 : -9223372036854775808 ≤ n) (h2 : n ≤ 9223372036854775807) : zz n < 18446744073709551616 := by unfold zz; split <;> omega

set_option maxRecDepth 100000 in
theorem byte_or (u : Nat) : bits .or .u8 ((u : Int) % 256) 128 = (((UInt8.ofNat (u % 128 + 128)).toNat : Nat) : Int) := by
  have e : (u : Int) % 256 = ((u % 256 : Nat) : Int) := by omega
  rw [e]
  have e0 : bits .or .u8 ((u % 256 : Nat) : Int) 128 = ((u % 256 ||| 128 : Nat) : Int) := u8_or_nat (u % 256) 128 (by omega) (by omega)
  rw [e0, UInt8.toNat_ofNat']
  have h : u % 256 ||| 128 = u % 128 + 128 := by
    have : ∀ x : Fin 256, x.1 ||| 128 = x.1 % 128 + 128 := by decide
    have := this ⟨u % 256, by omega⟩
    simp only at this
    rw [this]
    omega
  rw [h]
  omega
theorem byte_small (u : Nat) : IntKind.u8.wrap (u : Int) = (((UInt8.ofNat u).toNat : Nat) : Int) := by
  rw [IntKind.wrap_u8, UInt8.toNat_ofNat']
  omega
end Wp

theorem zigzag_any (n : Int) (h1 : -9223372036854775808 ≤ n) (h2 : n ≤ 9223372036854775807) (w : World) :
    Calls Try.prog 51 #[.int .i64 n] w fun e w' => e = .returned (.int .u64 (Wp.zz n : Int)) ∧ w = w' := by
  by_cases h : 0 ≤ n
  · go_enter Try.func51, Try.ntmps51
    go_wp2
    go_ret
    exact ⟨ret_int1 (Wp.zz_pos n h h2), rfl⟩
  · go_enter Try.func51, Try.ntmps51
    go_wp2
    go_ret
    exact ⟨ret_int1 (Wp.zz_neg n (by omega) h1), rfl⟩
end Go.Proofs.Ytcpdfgckfefboaa
