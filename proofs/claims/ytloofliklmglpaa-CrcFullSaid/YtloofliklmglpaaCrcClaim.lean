/- The walk of the law's own claim: the varint of a number of three groups. -/
import Derived.Test.YtloofliklmglpaaCrcArgs
import Derived.Test.YtloofliklmglpaaCrcLaws
namespace Go.Proofs.Ytloofliklmglpaa
open Go.RowKit

theorem varint3 (n : Nat) (h1 : 16384 ≤ n) (h2 : n < 2097152) : Wp.varint n = [UInt8.ofNat (n % 128 + 128), UInt8.ofNat (n / 128 % 128 + 128), UInt8.ofNat (n / 128 / 128)] := by
  rw [Wp.varint_big (by omega) (by omega), Wp.varint_big (by omega) (by omega), Wp.varint_small (by omega)]
theorem claim_bv (n : Nat) (h1 : 16384 ≤ n) (h2 : n < 2097152) : [Value.int .u8 ((n : Int) % 128 + 128), .int .u8 ((n : Int) / 128 % 128 + 128), .int .u8 ((n : Int) / 128 / 128)] = bv (Wp.varint n) := by
  have e1 : (n : Int) % 128 + 128 = ((UInt8.ofNat (n % 128 + 128)).toNat : Int) := by rw [UInt8.toNat_ofNat']; omega
  have e2 : (n : Int) / 128 % 128 + 128 = ((UInt8.ofNat (n / 128 % 128 + 128)).toNat : Int) := by rw [UInt8.toNat_ofNat']; omega
  have e3 : (n : Int) / 128 / 128 = ((UInt8.ofNat (n / 128 / 128)).toNat : Int) := by rw [UInt8.toNat_ofNat']; omega
  rw [varint3 n h1 h2, e1, e2, e3]
  rfl

set_option maxRecDepth 100000 in
set_option maxHeartbeats 3200000 in
theorem claim_any (n : Nat) (h1 : 16384 ≤ n) (h2 : n < 2097152) (w : World) :
    Calls Try.prog 20 #[.int .i64 (n : Int)] w (RetRow w.heap.size w (Wp.varint n)) := by
  have HB := Lib.hid (claim_bv n h1 h2)
  have HL := Lib.hid (show (Wp.varint n).length = 3 by rw [varint3 n h1 h2]; rfl)
  have hi1 : ¬ (n : Int) < 128 := by omega
  have hi2 : ¬ (n : Int) < 16384 := by omega
  go_enter Try.func20, Try.ntmps20
  go_wp2
  go_ret
  refine ⟨_, 3, 3, rfl, HL.out.symm, ?_, below_new w _⟩
  rw [← HB.out]
  exact World.ownsRow_lit (base := w.heap.size) (e := 5) (size := 1) w #[.int .u8 ((n : Int) % 128 + 128), .int .u8 ((n : Int) / 128 % 128 + 128), .int .u8 ((n : Int) / 128 / 128)] 3 (Nat.le_refl _) (by unfold maxLen; omega) rfl
end Go.Proofs.Ytloofliklmglpaa
