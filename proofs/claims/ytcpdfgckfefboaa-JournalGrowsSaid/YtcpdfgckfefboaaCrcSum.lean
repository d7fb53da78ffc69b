/- The walks of shifted, Extend, Sum, and of the reference's. -/
import Derived.Test.YtcpdfgckfefboaaCrcPlain
import Derived.Test.YtcpdfgckfefboaaWireAwake
namespace Go.Proofs.Ytcpdfgckfefboaa
open Go.RowKit

namespace Cr
theorem and1_32 (r : Nat) (h : r < 4294967296) : bits .and .u32 (r : Int) 1 = ((r % 2 : Nat) : Int) := by
  have e : bits .and .u32 (r : Int) 1 = ((r &&& 1 : Nat) : Int) := u32_and_nat r 1 h (by omega)
  rw [e, nat_mask1]
theorem xorP (r : Nat) (h : r < 4294967296) : bits .xor .u32 (r : Int) 3988292384 = ((r ^^^ 3988292384 : Nat) : Int) := u32_xor_nat r 3988292384 h (by omega)
theorem notx (r : Nat) (h : r < 4294967296) : bits .xor .u32 IntKind.u32.max (r : Int) = ((4294967295 - r : Nat) : Int) := by
  have e0 : bits .xor .u32 IntKind.u32.max (r : Int) = ((4294967295 ^^^ r : Nat) : Int) := u32_xor_nat 4294967295 r (by omega) h
  have e : 4294967295 ^^^ r = 4294967295 - r := by
    have hx : (BitVec.allOnes 32 ^^^ BitVec.ofNat 32 r) = ~~~ BitVec.ofNat 32 r := BitVec.allOnes_xor
    have h2 := congrArg BitVec.toNat hx
    rw [BitVec.toNat_xor, BitVec.toNat_not, BitVec.toNat_ofNat, Nat.mod_eq_of_lt (by omega), BitVec.toNat_allOnes] at h2
    simpa using h2
  rw [e0, e]
end Cr

set_option maxRecDepth 100000 in
set_option maxHeartbeats 1600000 in
theorem shifted_any (r c : Nat) (hr : r < 4294967296) (hc : c < 256) (w : World) :
    Calls Try.prog 64 #[.int .u32 (r : Int), .int .u8 (c : Int)] w fun e w' => e = .returned (.int .u32 (Cr.sh r c : Int)) ∧ w = w' := by
  have hx := u32_xor_nat r c hr (by omega)
  have hlt : r ^^^ c < 4294967296 := Nat.xor_lt_two_pow (n := 32) hr (by omega)
  have HS := Lib.hid (show Cr.sh r c = Cr.steps 8 (r ^^^ c) from rfl)
  generalize r ^^^ c = x at hx hlt HS
  go_enter Try.func64, Try.ntmps64
  go_wp2
  go_loop [0, 10] (fun v i => ∃ (k y : Nat), k ≤ 8 ∧ i = .int .i64 (k : Int) ∧ v = .int .u32 (y : Int) ∧ y < 4294967296 ∧ Hid (Cr.sh r c = Cr.steps (8 - k) y)) (fun _ i => 8 - (intOf i).toNat)
  case atStart => exact ⟨0, x, by omega, rfl, by go_num, hlt, HS⟩
  case round =>
    obtain ⟨k, y, hk, rfl, rfl, hy, HY⟩ := hrel
    have ha := Cr.and1_32 y hy
    obtain ⟨z, hz⟩ : ∃ z, z = y / 2 := ⟨_, rfl⟩
    have hzl : z < 2147483648 := by omega
    have hq : (y : Int) / 2 = (z : Int) := by omega
    have hxp := Cr.xorP z (by omega)
    have hxl : z ^^^ 3988292384 < 4294967296 := Nat.xor_lt_two_pow (n := 32) (by omega) (by decide)
    by_cases hlt8 : k < 8
    · have HN := Lib.hid (show Cr.steps (8 - k) y = Cr.steps (8 - (k + 1)) (Cr.step y) by rw [show 8 - k = (8 - (k + 1)) + 1 by omega]; rfl)
      by_cases hodd : y % 2 = 1
      · have HE := Lib.hid (show Cr.step y = z ^^^ 3988292384 by unfold Cr.step; rw [if_pos hodd, hz])
        rw [hodd] at ha
        have HH := Lib.hid (show Cr.sh r c = Cr.steps (8 - (k + 1)) (z ^^^ 3988292384) by rw [HY.out, HN.out, HE.out])
        clear hz
        generalize z ^^^ 3988292384 = v at hxp hxl HH
        go_wp2
        go_round
        case rel => exact ⟨k + 1, v, by omega, by go_num, rfl, hxl, HH⟩
        case measure => simp [intOf]; omega
      · have HE := Lib.hid (show Cr.step y = z by unfold Cr.step; rw [if_neg hodd, hz])
        have h0 : y % 2 = 0 := by omega
        rw [h0] at ha
        have HH := Lib.hid (show Cr.sh r c = Cr.steps (8 - (k + 1)) z by rw [HY.out, HN.out, HE.out])
        clear hz hxp hxl
        go_wp2
        go_round
        case rel => exact ⟨k + 1, z, by omega, by go_num, rfl, by omega, HH⟩
        case measure => simp [intOf]; omega
    · have hk8 : k = 8 := by omega
      subst hk8
      have HH : Cr.sh r c = y := HY.out
      clear hz hxp hxl ha hq
      go_wp2
      go_ret
      exact ⟨rfl, rfl⟩

theorem ret32 {a b : Nat} (h : a = b) : Ending.returned (.int .u32 (a : Int)) = .returned (.int .u32 (b : Int)) := by rw [h]

set_option maxRecDepth 100000 in
set_option maxHeartbeats 1600000 in
theorem extend_any (s : Nat) (A : Option Addr) (n cap : Nat) (l : List UInt8) (hn : n = l.length) (hs : s < 4294967296) (w : World) (hr : Rd w A (bv l)) (hl : l.length ≤ 1000000000000) :
    Calls Try.prog 63 #[.int .u32 (s : Int), .slice A n cap] w fun e w' => e = .returned (.int .u32 (Cr.ext s l : Int)) ∧ w = w' := by
  subst hn
  have hsg : IntKind.u32.signed = false := rfl
  have hnx := Cr.notx s hs
  have HR := Lib.hid hr
  clear hr
  go_enter Try.func63, Try.ntmps63
  go_wp2
  go_loopw [5, 12] (fun v i wr => ∃ (k y : Nat), k ≤ l.length ∧ i = .int .i64 (k : Int) ∧ v = .int .u32 (y : Int) ∧ y < 4294967296 ∧ Hid (Cr.run (4294967295 - s) l = Cr.run y (l.drop k)) ∧ wr = w) (fun _ i _ => l.length - (intOf i).toNat)
  case atStart =>
    exact ⟨0, 4294967295 - s, by omega, rfl, by first | rfl | rw [hnx], by omega, rfl, rfl⟩
  case round =>
    obtain ⟨k, y, hk, rfl, rfl, hy, HY, rfl⟩ := hrel
    have hny := Cr.notx y hy
    clear hnx
    by_cases hlt : k < l.length
    · obtain ⟨b, off, hA, hlt2, hc⟩ := HR.out.at_ hlt
      subst hA
      have hd : l.drop k = l[k] :: l.drop (k + 1) := List.drop_eq_getElem_cons hlt
      obtain ⟨c, hcc⟩ : ∃ c, c = l[k] := ⟨_, rfl⟩
      rw [← hcc] at hc hd
      have HH := Lib.hid (show Cr.run (4294967295 - s) l = Cr.run (Cr.sh y c.toNat) (l.drop (k + 1)) by rw [HY.out, hd]; rfl)
      have HC := Lib.hid (fun w => shifted_any y c.toNat hy c.toNat_lt w)
      have hv := Cr.sh_lt hy c.toNat_lt
      clear hd hcc
      have hkl' : (k : Int) < (l.length : Int) := by omega
      generalize Cr.sh y c.toNat = v at HH HC hv
      go_wp2_with fail
      refine (HC.out _).mono ?_
      rintro e w' ⟨rfl, rfl⟩
      go_wp2
      go_roundw
      case rel => exact ⟨k + 1, v, by omega, by go_num, rfl, hv, HH, by first | rfl | trivial⟩
      case measure => simp [intOf]; omega
    · have hkl : k = l.length := by omega
      have HH := Lib.hid (show Cr.ext s l = 4294967295 - y by
        have := HY.out
        rw [hkl, List.drop_length] at this
        unfold Cr.ext
        rw [this]
        rfl)
      have hkl' : ¬ (k : Int) < (l.length : Int) := by omega
      go_wp2
      go_ret
      exact ⟨ret32 HH.out.symm, rfl⟩
end Go.Proofs.Ytcpdfgckfefboaa
