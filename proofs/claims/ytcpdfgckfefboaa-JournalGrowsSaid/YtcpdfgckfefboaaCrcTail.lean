/- The walks of Sum and tail, and of the reference's. -/
import Derived.Test.YtcpdfgckfefboaaCrcSum
namespace Go.Proofs.Ytcpdfgckfefboaa
open Go.RowKit

theorem sum_eq (l : List UInt8) : Cr.sum l = Cr.ext 0 l := by unfold Cr.sum; rfl
set_option maxRecDepth 100000 in
set_option maxHeartbeats 1600000 in
theorem sum_any (A : Option Addr) (n cap : Nat) (l : List UInt8) (hn : n = l.length) (w : World) (hr : Rd w A (bv l)) (hl : l.length ≤ 1000000000000) :
    Calls Try.prog 60 #[.slice A n cap] w fun e w' => e = .returned (.int .u32 (Cr.sum l : Int)) ∧ w = w' := by
  obtain ⟨z, hz⟩ : ∃ z : Nat, z = 0 := ⟨0, rfl⟩
  have h0 := extend_any z A n cap l hn (by omega) w hr hl
  have hE : Cr.ext z l = Cr.sum l := by rw [hz, sum_eq]
  rw [hE] at h0
  clear hE
  generalize Cr.sum l = s at h0 ⊢
  have hz0 : (z : Int) = 0 := by omega
  rw [hz0] at h0
  clear hz0 hz
  have HE := Lib.hid h0
  clear hr h0 hn
  go_enter Try.func60, Try.ntmps60
  go_wp2_with fail
  refine HE.out.mono ?_
  rintro e w' ⟨rfl, rfl⟩
  go_wp2
  go_ret
  exact ⟨rfl, rfl⟩

theorem four_bv (s : Nat) (h : s < 4294967296) : [Value.int .u8 ((s : Int) / 16777216), .int .u8 ((s : Int) / 65536 % 256), .int .u8 ((s : Int) / 256 % 256), .int .u8 ((s : Int) % 256)] = bv (Cr.four s) := by
  have e1 : (s : Int) / 16777216 = ((UInt8.ofNat (s / 16777216)).toNat : Int) := by rw [UInt8.toNat_ofNat']; omega
  have e2 : (s : Int) / 65536 % 256 = ((UInt8.ofNat (s / 65536)).toNat : Int) := by rw [UInt8.toNat_ofNat']; omega
  have e3 : (s : Int) / 256 % 256 = ((UInt8.ofNat (s / 256)).toNat : Int) := by rw [UInt8.toNat_ofNat']; omega
  have e4 : (s : Int) % 256 = ((UInt8.ofNat s).toNat : Int) := by rw [UInt8.toNat_ofNat']; omega
  rw [e1, e2, e3, e4]
  rfl
/-- The four bytes as the code lays them. -/
theorem four_own (s : Nat) (h : s < 4294967296) (w : World) :
    RetRow w.heap.size w (Cr.four s) (.returned (.slice (some ⟨w.heap.size, 0, none⟩) 4 4)) (w.alloc (.cells #[.int .u8 ((s : Int) / 16777216), .int .u8 ((s : Int) / 65536 % 256), .int .u8 ((s : Int) / 256 % 256), .int .u8 ((s : Int) % 256)] 5)) := by
  have := World.ownsRow_lit (base := w.heap.size) (e := 5) (size := 1) w #[.int .u8 ((s : Int) / 16777216), .int .u8 ((s : Int) / 65536 % 256), .int .u8 ((s : Int) / 256 % 256), .int .u8 ((s : Int) % 256)] 4 (Nat.le_refl _) (by unfold maxLen; omega) rfl
  refine ⟨_, 4, 4, rfl, rfl, ?_, below_new w _⟩
  rw [← four_bv s h]
  exact this

set_option maxRecDepth 100000 in
set_option maxHeartbeats 1600000 in
theorem tail_any (A : Option Addr) (n cap : Nat) (l : List UInt8) (hn : n = l.length) (w : World) (hr : Rd w A (bv l)) (hl : l.length ≤ 1000000000000) :
    Calls Try.prog 45 #[.slice A n cap] w (RetRow w.heap.size w (Cr.four (Cr.sum l))) := by
  have HE := Lib.hid (sum_any A n cap l hn w hr hl)
  have hs := Cr.sum_lt l
  generalize Cr.sum l = s at hs HE ⊢
  clear hr hn
  go_enter Try.func45, Try.ntmps45
  go_wp2_with fail
  refine HE.out.mono ?_
  rintro e w' ⟨rfl, rfl⟩
  go_wp2
  go_ret
  exact four_own s hs w

set_option maxRecDepth 100000 in
set_option maxHeartbeats 1600000 in
theorem rtail_any (s : Nat) (hs : s < 4294967296) (w : World) :
    Calls Try.prog 53 #[.int .u32 (s : Int)] w (RetRow w.heap.size w (Cr.four s)) := by
  go_enter Try.func53, Try.ntmps53
  go_wp2
  go_ret
  exact four_own s hs w

theorem even_odd (y : Nat) : y % 2 = 0 ∨ y % 2 = 1 := by omega
set_option maxRecDepth 100000 in
set_option maxHeartbeats 3200000 in
theorem rextend_any (s : Nat) (A : Option Addr) (n cap : Nat) (l : List UInt8) (hn : n = l.length) (hs : s < 4294967296) (w : World) (hr : Rd w A (bv l)) (hl : l.length ≤ 1000000000000) :
    Calls Try.prog 61 #[.int .u32 (s : Int), .slice A n cap] w fun e w' => e = .returned (.int .u32 (Cr.ext s l : Int)) ∧ w = w' := by
  subst hn
  have hsg : IntKind.u32.signed = false := rfl
  have hnx := Cr.notx s hs
  have HR := Lib.hid hr
  clear hr
  go_enter Try.func61, Try.ntmps61
  go_wp2
  go_loopw [5, 6] (fun v i wr => ∃ (k y : Nat), k ≤ l.length ∧ i = .int .i64 (k : Int) ∧ v = .int .u32 (y : Int) ∧ y < 4294967296 ∧ Hid (Cr.run (4294967295 - s) l = Cr.run y (l.drop k)) ∧ wr = w) (fun _ i _ => l.length - (intOf i).toNat)
  case atStart =>
    exact ⟨0, 4294967295 - s, by omega, rfl, by first | rfl | rw [hnx], by omega, rfl, rfl⟩
  case round =>
    obtain ⟨k, y, hk, rfl, rfl, hy, HY, rfl⟩ := hrel
    have hny := Cr.notx y hy
    clear hnx
    by_cases hlt : k < l.length
    · obtain ⟨b, off, hA, hlt2, hc⟩ := HR.out.at_ hlt
      subst hA
      have hd : l.drop k = l[k] :: l.drop (k + 1) := List.drop_eq_getElem_cons hlt
      obtain ⟨c, hcc⟩ : ∃ c, c = l[k] := ⟨_, rfl⟩
      rw [← hcc] at hc hd
      have HH := Lib.hid (show Cr.run (4294967295 - s) l = Cr.run (Cr.sh y c.toNat) (l.drop (k + 1)) by rw [HY.out, hd]; rfl)
      have hx := u32_xor_nat y c.toNat hy (by have := c.toNat_lt; omega)
      have hlx : y ^^^ c.toNat < 4294967296 := Nat.xor_lt_two_pow (n := 32) hy (by have := c.toNat_lt; omega)
      have HS := Lib.hid (show Cr.sh y c.toNat = Cr.steps 8 (y ^^^ c.toNat) from rfl)
      have hv := Cr.sh_lt hy c.toNat_lt
      have hcb := c.toNat_lt
      generalize y ^^^ c.toNat = x at hx hlx HS
      generalize Cr.sh y c.toNat = v at HH HS hv
      clear hd hcc hny
      have hkl' : (k : Int) < (l.length : Int) := by omega
      go_wp2
      go_loopw [5, 7] (fun p i wr2 => ∃ (j z : Nat), j ≤ 8 ∧ i = .int .i64 (j : Int) ∧ p = .int .u32 (z : Int) ∧ z < 4294967296 ∧ Hid (v = Cr.steps (8 - j) z) ∧ wr2 = wr) (fun _ i _ => 8 - (intOf i).toNat)
      case atStart => exact ⟨0, x, by omega, rfl, rfl, hlx, HS, rfl⟩
      case round =>
        obtain ⟨j, z, hj, rfl, rfl, hz, HZ, rfl⟩ := hrel
        obtain ⟨t, ht⟩ : ∃ t, t = z / 2 := ⟨_, rfl⟩
        have htl : t < 2147483648 := by omega
        have hq : (z : Int) / 2 = (t : Int) := by omega
        have hxp := Cr.xorP t (by omega)
        have hxl : t ^^^ 3988292384 < 4294967296 := Nat.xor_lt_two_pow (n := 32) (by omega) (by decide)
        by_cases hlt8 : j < 8
        · have HN := Lib.hid (show Cr.steps (8 - j) z = Cr.steps (8 - (j + 1)) (Cr.step z) by rw [show 8 - j = (8 - (j + 1)) + 1 by omega]; rfl)
          by_cases hodd : z % 2 = 1
          · have HE := Lib.hid (show Cr.step z = t ^^^ 3988292384 by unfold Cr.step; rw [if_pos hodd, ht])
            have ha : (z : Int) % 2 = 1 := by omega
            have HH2 := Lib.hid (show v = Cr.steps (8 - (j + 1)) (t ^^^ 3988292384) by rw [HZ.out, HN.out, HE.out])
            clear ht hodd
            generalize t ^^^ 3988292384 = q at hxp hxl HH2
            go_wp2
            go_roundw
            case rel => exact ⟨j + 1, q, by omega, by go_num, rfl, hxl, HH2, by first | rfl | trivial⟩
            case measure => simp [intOf]; omega
          · have HE := Lib.hid (show Cr.step z = t by unfold Cr.step; rw [if_neg hodd, ht])
            have ha : (z : Int) % 2 = 0 := by omega
            have HH2 := Lib.hid (show v = Cr.steps (8 - (j + 1)) t by rw [HZ.out, HN.out, HE.out])
            clear ht hxp hxl hodd
            go_wp2
            go_roundw
            case rel => exact ⟨j + 1, t, by omega, by go_num, rfl, by omega, HH2, by first | rfl | trivial⟩
            case measure => simp [intOf]; omega
        · have hj8 : j = 8 := by omega
          subst hj8
          have hvz : v = z := HZ.out
          subst hvz
          clear ht hxp hxl hq
          go_wp2
          go_roundw
          case rel => exact ⟨k + 1, v, by omega, by go_num, rfl, hv, HH, by first | rfl | trivial⟩
          case measure => simp [intOf]; omega
    · have hkl : k = l.length := by omega
      have HH := Lib.hid (show Cr.ext s l = 4294967295 - y by
        have := HY.out
        rw [hkl, List.drop_length] at this
        unfold Cr.ext
        rw [this]
        rfl)
      have hkl' : ¬ (k : Int) < (l.length : Int) := by omega
      go_wp2
      go_ret
      exact ⟨ret32 HH.out.symm, rfl⟩

set_option maxRecDepth 100000 in
set_option maxHeartbeats 1600000 in
theorem rsum_any (A : Option Addr) (n cap : Nat) (l : List UInt8) (hn : n = l.length) (w : World) (hr : Rd w A (bv l)) (hl : l.length ≤ 1000000000000) :
    Calls Try.prog 54 #[.slice A n cap] w fun e w' => e = .returned (.int .u32 (Cr.sum l : Int)) ∧ w = w' := by
  obtain ⟨z, hz⟩ : ∃ z : Nat, z = 0 := ⟨0, rfl⟩
  have h0 := rextend_any z A n cap l hn (by omega) w hr hl
  have hE : Cr.ext z l = Cr.sum l := by rw [hz, sum_eq]
  rw [hE] at h0
  clear hE
  generalize Cr.sum l = s at h0 ⊢
  have hz0 : (z : Int) = 0 := by omega
  rw [hz0] at h0
  clear hz0 hz
  have HE := Lib.hid h0
  clear hr h0 hn
  go_enter Try.func54, Try.ntmps54
  go_wp2_with fail
  refine HE.out.mono ?_
  rintro e w' ⟨rfl, rfl⟩
  go_wp2
  go_ret
  exact ⟨rfl, rfl⟩
end Go.Proofs.Ytcpdfgckfefboaa
