/- The walk of TakeUint. -/
import Derived.Test.YtcpdfgckfefboaaWirePutC
import Derived.ScopeJumps
namespace Go.Proofs.Ytcpdfgckfefboaa
open Go.RowKit

namespace Wp
theorem and127 (c : Nat) (h : c < 256) : bits .and .u8 (c : Int) 127 = ((c % 128 : Nat) : Int) := by
  have e : bits .and .u8 (c : Int) 127 = ((c &&& 127 : Nat) : Int) := u8_and_nat c 127 h (by omega)
  rw [e, nat_mask7]
theorem pow128 (k : Nat) : 128 ^ k = 2 ^ (7 * k) := by rw [Nat.pow_mul]
theorem orv (x c k : Nat) (hc : c < 256) (hx : x < 128 ^ k) (hk : k ≤ 9) : ∃ y : Nat,
    bits .or .u64 (x : Int) (IntKind.u64.wrap (IntKind.u64.wrap (bits .and .u8 (c : Int) 127) * 2 ^ (7 * k))) = (y : Int) ∧ (k ≤ 8 ∨ c % 128 ≤ 1 → y = x + (c % 128) * 128 ^ k) := by
  have h9 : 128 ^ k ≤ 128 ^ 9 := Nat.pow_le_pow_right (by decide) hk
  have h9' : (128 : Nat) ^ 9 = 9223372036854775808 := by decide
  rw [and127 c hc, IntKind.wrap_u64, IntKind.wrap_u64]
  have e1 : ((c % 128 : Nat) : Int) % 18446744073709551616 = ((c % 128 : Nat) : Int) := by omega
  rw [e1]
  have e2 : ((c % 128 : Nat) : Int) * 2 ^ (7 * k) = (((c % 128) * 128 ^ k : Nat) : Int) := by
    rw [pow128]
    simp
  rw [e2]
  generalize hm : (c % 128) * 128 ^ k = m
  have e3 : ((m : Nat) : Int) % 18446744073709551616 = ((m % 18446744073709551616 : Nat) : Int) := by omega
  rw [e3, u64_or_nat x (m % 18446744073709551616) (by omega) (by omega)]
  refine ⟨_, rfl, fun h => ?_⟩
  have hlt : m < 18446744073709551616 := by
    rw [← hm]
    rcases h with h | h
    · have h8 : 128 ^ k ≤ 128 ^ 8 := Nat.pow_le_pow_right (by decide) h
      have h8' : (128 : Nat) ^ 8 = 72057594037927936 := by decide
      have : (c % 128) * 128 ^ k ≤ 128 * 128 ^ 8 := Nat.mul_le_mul (by omega) h8
      omega
    · have : (c % 128) * 128 ^ k ≤ 1 * 128 ^ 9 := Nat.mul_le_mul h h9
      omega
  rw [Nat.mod_eq_of_lt hlt, Nat.or_comm]
  have := nat_join (7 * k) m x (by rw [← hm, pow128]; exact Nat.mul_mod_left _ _) (by rw [← pow128]; exact hx)
  rw [this]
  omega
theorem orv0 (c : Nat) (hc : c < 256) : ∃ y : Nat, bits .or .u64 0 (IntKind.u64.wrap (IntKind.u64.wrap (bits .and .u8 (c : Int) 127))) = (y : Int) ∧ y = c % 128 := by
  obtain ⟨y, hy, hy2⟩ := orv 0 c 0 hc (by simp) (by omega)
  refine ⟨y, ?_, by have := hy2 (.inl (by omega)); simpa using this⟩
  simpa using hy
theorem tk_full (acc : Nat) (l : List UInt8) : tk 10 acc l = (0, 0, 2) := by cases l <;> simp [tk]
theorem tk_nil (k acc : Nat) (h : k ≠ 10) : tk k acc [] = (0, 0, 4) := by simp [tk, h]
theorem tk_more (k acc : Nat) (c : UInt8) (r : List UInt8) (h : k ≠ 10) (hc : 128 ≤ c.toNat) : tk k acc (c :: r) = tk (k + 1) (acc + (c.toNat % 128) * 128 ^ k) r := by simp [tk, h, hc]
theorem tk_over (k acc : Nat) (c : UInt8) (r : List UInt8) (h : k = 9) (hc : ¬ 128 ≤ c.toNat) (h1 : 1 < c.toNat) : tk k acc (c :: r) = (0, 0, 2) := by subst h; simp [tk, hc, h1]
theorem tk_form (k acc : Nat) (c : UInt8) (r : List UInt8) (h : k < 10) (h0 : 0 < k) (h1 : c.toNat = 0) : tk k acc (c :: r) = (0, 0, 3) := by simp [tk, show k ≠ 10 by omega, h1, h0]
theorem tk_ok (k acc : Nat) (c : UInt8) (r : List UInt8) (h : k < 10) (hc : ¬ 128 ≤ c.toNat) (h9 : ¬ (k = 9 ∧ 1 < c.toNat)) (h0 : ¬ (0 < k ∧ c.toNat = 0)) : tk k acc (c :: r) = (acc + c.toNat * 128 ^ k, k + 1, 0) := by
  simp [tk, show k ≠ 10 by omega, hc, h9, h0]
end Wp

theorem ret_take {u k : Nat} {e : Int} {u' k' e' : Int} {p : Nat × Nat × Int} (h : p = (u, k, e)) (hu : u' = u) (hk : k' = k) (he : e' = e) :
    Ending.returned (.tuple #[.int .u64 u', .int .i64 k', .int .i64 e']) = .returned (.tuple #[.int .u64 (p.1 : Int), .int .i64 (p.2.1 : Int), .int .i64 p.2.2]) := by
  rw [h, hu, hk, he]

/-- The frame of TakeUint at its label, k bytes being read. -/
def AtNext (A : Option Addr) (n cap : Nat) (l : List UInt8) (a : Act) (w w' : World) : Prop := w = w' ∧ ∃ (k x acc : Nat) (u7 u8 u9 u10 u11 u12 u13 u14 u15 u16 u17 u18 u19 u20 u21 u22 u23 u24 u25 u26 u27 u28 u29 u30 u31 u32 u33 u34 u35 u36 u37 u38 u39 u40 u41 u42 u43 : Value),
  a = { tmps := #[.slice A n cap, undef, .int .u64 0, .int .i64 0, .int .i64 0, .int .u64 (x : Int), .int .i64 (k : Int), u7, u8, u9, u10, u11, u12, u13, u14, u15, u16, u17, u18, u19, u20, u21, u22, u23, u24, u25, u26, u27, u28, u29, u30, u31, u32, u33, u34, u35, u36, u37, u38, u39, u40, u41, u42, u43], defers := [] } ∧ k ≤ 10 ∧ k ≤ l.length ∧ Hid (Wp.tk k acc (l.drop k) = Wp.takeU l) ∧ (k ≤ 9 → Hid (x = acc) ∧ x < 128 ^ k) ∧ 1 ≤ k

theorem byte_lt (c : UInt8) : c.toNat < 256 := c.toNat_lt

set_option maxRecDepth 100000 in
set_option maxHeartbeats 1600000 in
theorem takeuint_any (A : Option Addr) (n cap : Nat) (l : List UInt8) (hn : n = l.length) (w : World) (hr : Rd w A (bv l)) (hl : l.length ≤ 1000000000000) :
    Calls Try.prog 44 #[.slice A n cap] w fun e w' => e = .returned (.tuple #[.int .u64 ((Wp.takeU l).1 : Int), .int .i64 ((Wp.takeU l).2.1 : Int), .int .i64 (Wp.takeU l).2.2]) ∧ w = w' := by
  subst hn
  have HR := Lib.hid hr
  clear hr
  go_enter Try.func44, Try.ntmps44
  go_wp2
  refine wp_scope_jumps 0 (fun a' w' => AtNext A l.length cap l a' w w') (fun a' _ => 10 - (intOf (a'.tmps.getD 6 undef)).toNat) rfl ?_ ?_
  · by_cases hlt : 0 < l.length
    · obtain ⟨b, off, hA, hlt2, hc⟩ := HR.out.at_ hlt
      subst hA
      have hd : l.drop 0 = l[0] :: l.drop 1 := List.drop_eq_getElem_cons hlt
      obtain ⟨y, hy, hy2⟩ := Wp.orv0 l[0].toNat (byte_lt _)
      have hne := beq_f (show (0 : Int) ≠ (l.length : Int) by omega)
      have hne2 := beq_f (show (l.length : Int) ≠ 0 by omega)
      obtain ⟨c, hcc⟩ : ∃ c, c = l[0] := ⟨_, rfl⟩
      rw [← hcc] at hc hd hy hy2
      rw [List.drop_zero] at hd
      have HD := Lib.hid hd
      have HY := Lib.hid hy2
      rw [Nat.add_zero] at hc
      by_cases hbig : 128 ≤ c.toNat
      · have hbig' : (128 : Int) ≤ (c.toNat : Int) := by omega
        have HT := Lib.hid (show Wp.tk 1 y (l.drop 1) = Wp.takeU l by
          unfold Wp.takeU
          rw [HD.out, Wp.tk_more 0 0 c _ (by omega) hbig, ← HD.out, HY.out]
          simp)
        have hy128 : y < 128 := by omega
        clear hd hy2 hcc hbig
        go_wp2
        go_step3
        go_wp2
        go_step3
        exact ⟨rfl, rfl, 1, y, y, _, _, _, _, _, _, _, _, _, _, _, _, _, _, _, _, _, _, _, _, _, _, _, _, _, _, _, _, _, _, _, _, _, _, _, _, _, rfl, by omega, by omega, HT, fun _ => ⟨rfl, by omega⟩, by omega⟩
      · have hsm : (c.toNat : Int) < 128 := by omega
        have HT := Lib.hid (show Wp.takeU l = (y, 1, 0) by
          unfold Wp.takeU
          rw [HD.out, Wp.tk_ok 0 0 c _ (by omega) hbig (by omega) (by omega), HY.out]
          simp
          omega)
        clear hd hy2 hcc hbig
        go_wp2
        go_step3
        go_wp2
        simp only [Exit.jump]
        go_ret3
        exact ⟨ret_take HT.out rfl rfl rfl, rfl⟩
    · have hl0 : l.length = 0 := by omega
      have hnil : l = [] := List.eq_nil_of_length_eq_zero hl0
      subst hnil
      go_wp2
      go_step3
      go_wp2
      simp only [Exit.jump]
      go_ret3
      exact ⟨ret_take (Wp.tk_nil 0 0 (by omega)) rfl rfl rfl, rfl⟩
  · rintro a' w' ⟨rfl, k, x, acc, u7, u8, u9, u10, u11, u12, u13, u14, u15, u16, u17, u18, u19, u20, u21, u22, u23, u24, u25, u26, u27, u28, u29, u30, u31, u32, u33, u34, u35, u36, u37, u38, u39, u40, u41, u42, u43, rfl, hk, hkl, HT, hx, hk0⟩
    by_cases hk10 : k = 10
    · subst hk10
      have HF := Lib.hid (show Wp.takeU l = (0, 0, 2) by rw [← HT.out]; exact Wp.tk_full _ _)
      go_wp2
      simp only [Exit.jump]
      go_ret3
      exact ⟨ret_take HF.out rfl rfl rfl, rfl⟩
    · have hk9 : k < 10 := by omega
      have hne := beq_f (show (k : Int) ≠ 10 by omega)
      obtain ⟨HX, hxlt⟩ := hx (by omega)
      by_cases hlt : k < l.length
      · obtain ⟨b, off, hA, hlt2, hc⟩ := HR.out.at_ hlt
        subst hA
        have hd : l.drop k = l[k] :: l.drop (k + 1) := List.drop_eq_getElem_cons hlt
        have hne2 := beq_f (show (k : Int) ≠ (l.length : Int) by omega)
        obtain ⟨y, hy, hy2⟩ := Wp.orv x l[k].toNat k (byte_lt _) hxlt (by omega)
        obtain ⟨c, hcc⟩ : ∃ c, c = l[k] := ⟨_, rfl⟩
        rw [← hcc] at hc hd hy hy2
        have HD := Lib.hid hd
        have HY := Lib.hid hy2
        have HXL := Lib.hid hxlt
        have hk1 : 1 ≤ k := by omega
        clear hd hy2 hcc hx hxlt
        by_cases hbig : 128 ≤ c.toNat
        · have hbig' : (128 : Int) ≤ (c.toNat : Int) := by omega
          have HT2 := Lib.hid (show Wp.tk (k + 1) (acc + (c.toNat % 128) * 128 ^ k) (l.drop (k + 1)) = Wp.takeU l by
            rw [← HT.out, HD.out, Wp.tk_more k acc c _ (by omega) hbig])
          have HK := Lib.hid (show k + 1 ≤ 9 → Hid (y = acc + (c.toNat % 128) * 128 ^ k) ∧ y < 128 ^ (k + 1) by
            intro h9
            have e := HY.out (.inl (by omega))
            rw [HX.out] at e
            refine ⟨e, ?_⟩
            have h1 := HXL.out
            rw [HX.out] at h1
            have h2 : (c.toNat % 128) * 128 ^ k ≤ 127 * 128 ^ k := Nat.mul_le_mul_right _ (by omega)
            rw [e, Nat.pow_succ]
            omega)
          clear hbig hne2
          have hne2 := beq_f (show (k : Int) ≠ (l.length : Int) by omega)
          go_wp2
          go_step3
          exact ⟨rfl, ⟨rfl, k + 1, y, _, _, _, _, _, _, _, _, _, _, _, _, _, _, _, _, _, _, _, _, _, _, _, _, _, _, _, _, _, _, _, _, _, _, _, _, _, _, rfl, by omega, by omega, HT2, HK.out, by omega⟩, by simp [intOf]; omega⟩
        · have hsm : (c.toNat : Int) < 128 := by omega
          by_cases h9 : k = 9
          · have hk9' := beq_t (show (k : Int) + 1 = 10 by omega)
            by_cases h1 : 1 < c.toNat
            · have HF := Lib.hid (show Wp.takeU l = (0, 0, 2) by rw [← HT.out, HD.out]; exact Wp.tk_over k acc c _ h9 hbig h1)
              have h1' : (1 : Int) < (c.toNat : Int) := by omega
              clear hbig h1 h9
              go_wp2
              simp only [Exit.jump]
              go_ret3
              exact ⟨ret_take HF.out rfl rfl rfl, rfl⟩
            · have h1' : (c.toNat : Int) ≤ 1 := by omega
              by_cases h0 : c.toNat = 0
              · have HF := Lib.hid (show Wp.takeU l = (0, 0, 3) by rw [← HT.out, HD.out]; exact Wp.tk_form k acc c _ (by omega) (by omega) h0)
                have h0' : ((c.toNat : Int) == 0) = true := by simp [h0]
                clear hbig h1 h0 h9
                go_wp2
                simp only [Exit.jump]
                go_ret3
                exact ⟨ret_take HF.out rfl rfl rfl, rfl⟩
              · have HV := Lib.hid (show acc + c.toNat * 128 ^ k = y by
                  have := HY.out (.inr (by omega))
                  rw [HX.out, Nat.mod_eq_of_lt (by omega)] at this
                  exact this.symm)
                have HF := Lib.hid (show Wp.takeU l = (y, k + 1, 0) by rw [← HT.out, HD.out, ← HV.out]; exact Wp.tk_ok k acc c _ (by omega) hbig (by omega) (by omega))
                have h0' : ((c.toNat : Int) == 0) = false := by simp; omega
                clear hbig h1 h0 h9
                go_wp2
                simp only [Exit.jump]
                go_ret3
                exact ⟨ret_take HF.out rfl (by omega) rfl, rfl⟩
          · have hk9' := beq_f (show (k : Int) + 1 ≠ 10 by omega)
            by_cases h0 : c.toNat = 0
            · have HF := Lib.hid (show Wp.takeU l = (0, 0, 3) by rw [← HT.out, HD.out]; exact Wp.tk_form k acc c _ (by omega) (by omega) h0)
              have h0' : ((c.toNat : Int) == 0) = true := by simp [h0]
              clear hbig h0 h9
              go_wp2
              simp only [Exit.jump]
              go_ret3
              exact ⟨ret_take HF.out rfl rfl rfl, rfl⟩
            · have HV := Lib.hid (show acc + c.toNat * 128 ^ k = y by
                have := HY.out (.inl (by omega))
                rw [HX.out, Nat.mod_eq_of_lt (by omega)] at this
                exact this.symm)
              have HF := Lib.hid (show Wp.takeU l = (y, k + 1, 0) by rw [← HT.out, HD.out, ← HV.out]; exact Wp.tk_ok k acc c _ (by omega) hbig (by omega) (by omega))
              have h0' : ((c.toNat : Int) == 0) = false := by simp; omega
              clear hbig h0 h9
              go_wp2
              simp only [Exit.jump]
              go_ret3
              exact ⟨ret_take HF.out rfl (by omega) rfl, rfl⟩
      · have hke : k = l.length := by omega
        subst hke
        have HF := Lib.hid (show Wp.takeU l = (0, 0, 4) by rw [← HT.out, List.drop_length]; exact Wp.tk_nil _ _ (by omega))
        go_wp2
        simp only [Exit.jump]
        go_ret3
        exact ⟨ret_take HF.out rfl rfl rfl, rfl⟩
end Go.Proofs.Ytcpdfgckfefboaa
