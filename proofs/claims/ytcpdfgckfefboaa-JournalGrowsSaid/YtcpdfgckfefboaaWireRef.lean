/- The walks of the reference's PutUint, TakeUint. -/
import Derived.Test.YtcpdfgckfefboaaWireTakeD
namespace Go.Proofs.Ytcpdfgckfefboaa
open Go.RowKit

namespace Wp
theorem byte_add (u : Nat) : (((UInt8.ofNat (u % 128 + 128)).toNat : Nat) : Int) = (u : Int) % 128 + 128 := by
  rw [UInt8.toNat_ofNat']
  omega
theorem refv (x y c k : Nat) (h : k ≤ 9 → x < 128 ^ k ∧ y = 128 ^ k) : ∃ x2 y2 : Nat,
    IntKind.u64.wrap ((x : Int) + IntKind.u64.wrap ((y : Int) * ((c : Int) % 128))) = (x2 : Int) ∧ IntKind.u64.wrap ((y : Int) * 128) = (y2 : Int) ∧
    (k ≤ 9 → k ≤ 8 ∨ c % 128 ≤ 1 → x2 = x + (c % 128) * 128 ^ k) ∧ (k ≤ 8 → y2 = 128 ^ (k + 1)) := by
  have e1 : (y : Int) * ((c : Int) % 128) = ((y * (c % 128) : Nat) : Int) := by simp
  rw [e1]
  simp only [IntKind.wrap_u64]
  refine ⟨((x : Int) + ((y * (c % 128) : Nat) : Int) % 18446744073709551616).toNat % 18446744073709551616, (y * 128) % 18446744073709551616, by omega, by omega, ?_, ?_⟩
  · intro h9 hs
    obtain ⟨hx, hy⟩ := h h9
    have h9' : 128 ^ k ≤ 128 ^ 9 := Nat.pow_le_pow_right (by decide) h9
    have h9'' : (128 : Nat) ^ 9 = 9223372036854775808 := by decide
    subst hy
    have hm : (c % 128) * 128 ^ k ≤ 9223372036854775808 := by
      rcases hs with h8 | h1
      · have h8' : 128 ^ k ≤ 128 ^ 8 := Nat.pow_le_pow_right (by decide) h8
        have h8'' : (128 : Nat) ^ 8 = 72057594037927936 := by decide
        have : (c % 128) * 128 ^ k ≤ 128 * 128 ^ 8 := Nat.mul_le_mul (by omega) h8'
        omega
      · have : (c % 128) * 128 ^ k ≤ 1 * 128 ^ 9 := Nat.mul_le_mul h1 h9'
        omega
    rw [Nat.mul_comm (128 ^ k)]
    generalize (c % 128) * 128 ^ k = m at hm ⊢
    omega
  · intro h8
    obtain ⟨_, hy⟩ := h (by omega)
    subst hy
    have h8' : 128 ^ k ≤ 128 ^ 8 := Nat.pow_le_pow_right (by decide) h8
    have h8'' : (128 : Nat) ^ 8 = 72057594037927936 := by decide
    rw [Nat.pow_succ]
    omega
end Wp

set_option maxRecDepth 100000 in
set_option maxHeartbeats 1600000 in
theorem rputuint_any (A : Option Addr) (m cap : Nat) (l : List UInt8) (hm : m = l.length) (hc0 : A = none → cap = 0) (u : Nat) (w : World) (hr : Rd w A (bv l)) (hu : u < 18446744073709551616) (hl : l.length ≤ 100000000000) :
    Calls Try.prog 52 #[.slice A m cap, .int .u64 (u : Int)] w (RetRow w.heap.size w (l ++ Wp.varint u)) := by
  obtain ⟨i0, hi, hz0, hz1, hz2⟩ := info_parts info_u8
  have HR := Lib.hid hr
  have HM := Lib.hid hm
  have HC0 := Lib.hid hc0
  have hml : m ≤ 100000000000 := by omega
  have hown0 := Lib.hid (World.ownsRow_lit (base := w.heap.size) (e := 5) (size := 1) w #[] 0 (Nat.le_refl _) (by unfold maxLen; omega) rfl)
  clear hr hm hc0
  go_enter Try.func52, Try.ntmps52
  go_wp2_with (at_builtin; refine wpList_appN rfl _ _ 23 rfl w.heap.size 5 i0 (.int .u8 0) 1 Try.underlying23 hi hz0 hz1 hz2 rfl _ 0 [] rfl hown0.out A m cap (bv l) rfl (by rw [bv_length]; exact HM.out.symm) HC0.out (HR.out.to (below_new w _)) (bv_one l) (by unfold maxLen; omega) (by omega) (by simp) m (Nat.zero_add m).symm ?_; intro A1 cap1 w1 hcap1 hown1 hb1; have HO1 := Lib.hid hown1; have HB1 := Lib.hid hb1; clear hown1 hb1)
  go_loopw [5, 1] (fun v x wr => ∃ (A : Option Addr) (n cap : Nat) (pre : List UInt8) (uu : Nat), v = .slice A n cap ∧ Hid (n = pre.length) ∧ x = .int .u64 (uu : Int) ∧ uu < 18446744073709551616 ∧ Hid (pre ++ Wp.varint uu = l ++ Wp.varint u) ∧
      wr.ownsRow w.heap.size 5 1 (.slice A n cap) n (bv pre) ∧ Below w.heap.size w wr) (fun _ x _ => (intOf x).toNat)
  case atStart => exact ⟨A1, m, cap1, l, u, rfl, HM, rfl, hu, rfl, by simpa using HO1.out, (below_new w _).trans HB1.out⟩
  case round =>
    obtain ⟨A2, n2, cap2, pre, uu, rfl, HN, rfl, huu, HE, ho, hb⟩ := hrel
    have HO := Lib.hid ho
    have HB := Lib.hid hb
    have hsz := hb.size
    have hpl : n2 ≤ 100000000010 := by
      have h1 := congrArg List.length HE.out
      have h2 := (Wp.varint_len u).2
      have h3 := HN.out
      simp only [List.length_append] at h1
      omega
    clear ho hb
    by_cases hbig : 128 ≤ uu
    · have HBY := Lib.hid (Wp.byte_add uu)
      have hbig' : (128 : Int) ≤ (uu : Int) := by omega
      go_wp2_with (at_builtin; refine wpList_app1 rfl _ _ 23 rfl w.heap.size 5 i0 (.int .u8 0) 1 Try.underlying23 hi hz0 hz1 hz2 rfl _ n2 (bv pre) rfl (HO.out.alloc _) ⟨wr.heap.size, 0, none⟩ 1 (.int .u8 ((uu : Int) % 128 + 128)) rfl (new0 _ _ _) rfl (by unfold maxLen; omega) (by omega) (by simp; omega) ?_; intro A' cap' w1 hcap1 hown1 hb1; have HO1 := Lib.hid hown1; have HB1 := Lib.hid hb1; clear hown1 hb1)
      have HE2 : Hid ((pre ++ [UInt8.ofNat (uu % 128 + 128)]) ++ Wp.varint (uu / 128) = l ++ Wp.varint u) := by
        show _ = _
        rw [← HE.out, Wp.varint_big hbig huu]
        simp
      have hown2 : w1.ownsRow w.heap.size 5 1 (.slice A' (n2 + 1) cap') (n2 + 1) (bv (pre ++ [UInt8.ofNat (uu % 128 + 128)])) := by
        have := HO1.out
        rwa [← HBY.out, bv_snoc] at this
      have hb2 : Below w.heap.size w w1 := (HB.out.alloc (by omega) _).trans HB1.out
      have HN2 : Hid (n2 + 1 = (pre ++ [UInt8.ofNat (uu % 128 + 128)]).length) := by
        show _ = _
        rw [HN.out]; simp
      go_roundw
      case rel => exact ⟨A', n2 + 1, cap', pre ++ [UInt8.ofNat (uu % 128 + 128)], uu / 128, rfl, HN2, by go_num, by omega, HE2, hown2, hb2⟩
      case measure => simp [intOf]; omega
    · have hsmall : (uu : Int) < 128 := by omega
      have HV := Lib.hid (Wp.varint_small (u := uu) (by omega))
      have HC := Lib.hid (show (uu : Int) = ((UInt8.ofNat uu).toNat : Int) by rw [UInt8.toNat_ofNat']; omega)
      clear huu hbig
      go_wp2_with (at_builtin; refine wpList_app1 rfl _ _ 23 rfl w.heap.size 5 i0 (.int .u8 0) 1 Try.underlying23 hi hz0 hz1 hz2 rfl _ n2 (bv pre) rfl (HO.out.alloc _) ⟨wr.heap.size, 0, none⟩ 1 (.int .u8 (uu : Int)) rfl (new0 _ _ _) rfl (by unfold maxLen; omega) (by omega) (by simp; omega) ?_; intro A' cap' w1 hcap1 hown1 hb1; have HO1 := Lib.hid hown1; have HB1 := Lib.hid hb1; clear hown1 hb1)
      go_ret
      have he : pre ++ [UInt8.ofNat uu] = l ++ Wp.varint u := by
        rw [← HE.out, HV.out]
      rw [← he]
      refine ⟨A', _, cap', rfl, by rw [HN.out]; simp, ?_, (HB.out.alloc (by omega) _).trans HB1.out⟩
      have := HO1.out
      rw [HC.out, bv_snoc] at this
      exact this

set_option maxRecDepth 100000 in
set_option maxHeartbeats 1600000 in
theorem rtakeuint_any (A : Option Addr) (n cap : Nat) (l : List UInt8) (hn : n = l.length) (w : World) (hr : Rd w A (bv l)) (hl : l.length ≤ 1000000000000) :
    Calls Try.prog 58 #[.slice A n cap] w fun e w' => e = .returned (.tuple #[.int .u64 ((Wp.takeU l).1 : Int), .int .i64 ((Wp.takeU l).2.1 : Int), .int .i64 (Wp.takeU l).2.2]) ∧ w = w' := by
  subst hn
  have HR := Lib.hid hr
  clear hr
  go_enter Try.func58, Try.ntmps58
  go_wp2
  go_loop [5, 6, 7] (fun u v i => ∃ (k x y acc : Nat), k ≤ 10 ∧ k ≤ l.length ∧ i = .int .i64 (k : Int) ∧ u = .int .u64 (x : Int) ∧ v = .int .u64 (y : Int) ∧ Hid (Wp.tk k acc (l.drop k) = Wp.takeU l) ∧ Hid (k ≤ 9 → x = acc ∧ x < 128 ^ k ∧ y = 128 ^ k)) (fun _ _ i => 10 - (intOf i).toNat)
  case atStart => exact ⟨0, 0, 1, 0, by omega, by omega, rfl, rfl, rfl, rfl, fun _ => by simp⟩
  case round =>
    obtain ⟨k, x, y, acc, hk, hkl, rfl, rfl, rfl, HT, HK⟩ := hrel
    by_cases hk10 : k < 10
    · by_cases hlt : k < l.length
      · obtain ⟨b, off, hA, hlt2, hc⟩ := HR.out.at_ hlt
        subst hA
        have hd : l.drop k = l[k] :: l.drop (k + 1) := List.drop_eq_getElem_cons hlt
        obtain ⟨c, hcc⟩ : ∃ c, c = l[k] := ⟨_, rfl⟩
        rw [← hcc] at hc hd
        have HD := Lib.hid hd
        clear hd hcc
        obtain ⟨x2, y2, hx2, hy2, HX2, HY2⟩ := Wp.refv x y c.toNat k (fun h => ⟨(HK.out h).2.1, (HK.out h).2.2⟩)
        have HX := Lib.hid HX2
        have HY := Lib.hid HY2
        have hcb := byte_lt c
        have hkl' : (k : Int) < (l.length : Int) := by omega
        clear HX2 HY2
        by_cases hov : k = 9 ∧ 1 < c.toNat
        · obtain ⟨h9, h1⟩ := hov
          have hk9 := beq_t (show (k : Int) = 9 by omega)
          have h1' : (1 : Int) < (c.toNat : Int) := by omega
          have HF := Lib.hid (show Wp.takeU l = (0, 0, 2) by
            rw [← HT.out, HD.out]
            by_cases hb : 128 ≤ c.toNat
            · rw [Wp.tk_more k acc c _ (by omega) hb, show k + 1 = 10 by omega, Wp.tk_full]
            · exact Wp.tk_over k acc c _ h9 hb h1)
          clear h1 h9 hcb
          go_wp2
          go_ret3
          exact ⟨ret_take HF.out rfl rfl rfl, rfl⟩
        · have hgo : ((k : Int) == 9) = false ∨ ((k : Int) == 9) = true ∧ (c.toNat : Int) ≤ 1 := by
            by_cases h9 : k = 9
            · exact .inr ⟨beq_t (by omega), by omega⟩
            · exact .inl (beq_f (by omega))
          have HG := Lib.hid (show k ≤ 8 ∨ c.toNat % 128 ≤ 1 by omega)
          by_cases hbig : 128 ≤ c.toNat
          · have hbig' : (128 : Int) ≤ (c.toNat : Int) := by omega
            have hk8 : k ≤ 8 := by omega
            have HT2 : Hid (Wp.tk (k + 1) (acc + (c.toNat % 128) * 128 ^ k) (l.drop (k + 1)) = Wp.takeU l) := by
              show _ = _
              rw [← HT.out, HD.out, Wp.tk_more k acc c _ (by omega) hbig]
            have HK2 : Hid (k + 1 ≤ 9 → x2 = acc + (c.toNat % 128) * 128 ^ k ∧ x2 < 128 ^ (k + 1) ∧ y2 = 128 ^ (k + 1)) := by
              intro _
              have e := HX.out (by omega) HG.out
              obtain ⟨k1, k2, k3⟩ := HK.out (by omega)
              have h2 : (c.toNat % 128) * 128 ^ k ≤ 127 * 128 ^ k := Nat.mul_le_mul_right _ (by omega)
              refine ⟨by rw [← k1]; exact e, ?_, HY.out hk8⟩
              rw [e, Nat.pow_succ]
              omega
            have hk9 := beq_f (show (k : Int) ≠ 9 by omega)
            clear hgo hbig hov hcb hk8
            go_wp2
            go_round
            case rel => exact ⟨k + 1, x2, y2, _, by omega, by omega, by go_num, rfl, rfl, HT2, HK2⟩
            case measure => simp [intOf]; omega
          · have hsm : (c.toNat : Int) < 128 := by omega
            have hmod : (c.toNat : Int) % 128 = (c.toNat : Int) := by omega
            have hx2' := hx2
            rw [hmod] at hx2'
            by_cases h0 : 0 < k ∧ c.toNat = 0
            · have HF := Lib.hid (show Wp.takeU l = (0, 0, 3) by
                rw [← HT.out, HD.out]
                exact Wp.tk_form k acc c _ (by omega) h0.1 h0.2)
              have h0k : (0 : Int) < (k : Int) := by omega
              have h0c := beq_t (show (c.toNat : Int) = 0 by omega)
              clear hbig hov hcb hmod h0
              rcases hgo with hk9 | ⟨hk9, hle⟩
              all_goals
                go_wp2
                go_ret3
                exact ⟨ret_take HF.out rfl rfl rfl, rfl⟩
            · have HF := Lib.hid (show Wp.takeU l = (x2, k + 1, 0) by
                rw [← HT.out, HD.out, Wp.tk_ok k acc c _ (by omega) hbig hov h0]
                have e := HX.out (by omega) HG.out
                obtain ⟨k1, k2, k3⟩ := HK.out (by omega)
                rw [e, ← k1, Nat.mod_eq_of_lt (by omega)])
              have h0' : ((k : Int) ≤ 0) ∨ (0 : Int) < (k : Int) ∧ ((c.toNat : Int) == 0) = false := by
                by_cases hk0 : k = 0
                · exact .inl (by omega)
                · exact .inr ⟨by omega, beq_f (by omega)⟩
              clear hbig hov hcb hmod h0
              rcases hgo with hk9 | ⟨hk9, hle⟩
              all_goals
                rcases h0' with h0k | ⟨h0k, h0c⟩
                all_goals
                  go_wp2
                  go_ret3
                  exact ⟨ret_take HF.out rfl (by omega) rfl, rfl⟩
      · have hke : k = l.length := by omega
        subst hke
        have HF := Lib.hid (show Wp.takeU l = (0, 0, 4) by rw [← HT.out, List.drop_length]; exact Wp.tk_nil _ _ (by omega))
        go_wp2
        go_ret3
        exact ⟨ret_take HF.out rfl rfl rfl, rfl⟩
    · have hk10' : k = 10 := by omega
      have HF := Lib.hid (show Wp.takeU l = (0, 0, 2) by rw [← HT.out, hk10']; exact Wp.tk_full _ _)
      subst hk10'
      go_wp2
      go_ret3
      exact ⟨ret_take HF.out rfl rfl rfl, rfl⟩
end Go.Proofs.Ytcpdfgckfefboaa
