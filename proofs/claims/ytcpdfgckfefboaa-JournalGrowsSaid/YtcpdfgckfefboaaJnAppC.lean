/- The walks of Concat and Append: the result lies in new memory. -/
import Derived.Test.YtcpdfgckfefboaaJnAppB
namespace Go.Proofs.Ytcpdfgckfefboaa
open Go.RowKit
/-- The call returns bytes in new memory, to be read, and an error. -/
def RetPF (w : World) (p : List UInt8 × Int) (e : Ending) (w' : World) : Prop :=
  ∃ A n cap, e = .returned (.tuple #[.slice A n cap, .int .i64 p.2]) ∧ n = p.1.length ∧ n ≤ cap ∧ (A = none → cap = 0) ∧ Rd w' A (bv p.1) ∧ (∀ a, A = some a → w.heap.size ≤ a.block) ∧ Below w.heap.size w w'
theorem RetPF.fail {w w' : World} {p : List UInt8 × Int} {c : Int} (h : p = ([], c)) (hb : Below w.heap.size w w') : RetPF w p (.returned (.tuple #[.slice none 0 0, .int .i64 c])) w' := by
  subst h
  exact ⟨none, 0, 0, rfl, rfl, Nat.le_refl _, fun _ => rfl, Rd.nil _ _, (fun a ha => by cases ha), hb⟩

set_option maxRecDepth 100000 in
set_option maxHeartbeats 3200000 in
theorem concat_own (A0 : Option Addr) (n0 cap0 : Nat) (l0 : List UInt8) (h0 : n0 = l0.length) (c0 : A0 = none → cap0 = 0) (A1 : Option Addr) (n1 cap1 : Nat) (l1 : List UInt8) (h1 : n1 = l1.length) (c1 : A1 = none → cap1 = 0)
    (b : Nat) (w : World) (hb : b < w.heap.size) (z0 : w.cell? ⟨b, 0, none⟩ = some (.slice A0 n0 cap0)) (z1 : w.cell? ⟨b, 1, none⟩ = some (.slice A1 n1 cap1)) (r0 : Rd w A0 (bv l0)) (r1 : Rd w A1 (bv l1)) (hs : n0 ≤ 400000) (hs1 : n1 ≤ 400000) :
    Calls Try.prog 29 #[.slice (some ⟨b, 0, none⟩) 2 2] w (fun e w' => ∃ A n cap, e = .returned (.slice A n cap) ∧ n = (l0 ++ l1).length ∧ n ≤ cap ∧ (A = none → cap = 0) ∧ Rd w' A (bv (l0 ++ l1)) ∧ (∀ a, A = some a → w.heap.size ≤ a.block) ∧ Below w.heap.size w w') := by
  obtain ⟨i0, hi, hz0, hz1, hz2⟩ := info_parts info_u8
  have H0 := Lib.hid h0
  have H1 := Lib.hid h1
  have C0 := Lib.hid c0
  have C1 := Lib.hid c1
  have R0 := Lib.hid r0
  have R1 := Lib.hid r1
  have HG := Lib.hid (fun w' => show Calls Try.prog 47 #[.slice none 0 0, .int .i64 ((n0 + n1 : Nat) : Int)] w' fun e w2 => ∃ A cap, e = .returned (.slice A 0 cap) ∧ w2.ownsRow w'.heap.size 5 1 (.slice A 0 cap) 0 [] ∧ Below w'.heap.size w' w2 by
    by_cases hk : n0 + n1 = 0
    · rw [hk]
      refine (grow_zero w').mono ?_
      rintro e w2 ⟨rfl, rfl⟩
      exact ⟨none, 0, rfl, World.ownsRow_nil _ _ _ _, Below.refl _ _⟩
    · refine (grow_some (n0 + n1) (by omega) (by omega) w').mono ?_
      rintro e w2 ⟨cap, rfl, ho, hb⟩
      exact ⟨_, cap, rfl, ho, hb⟩)
  clear h0 h1 c0 c1 r0 r1
  go_enter Try.func29, Try.ntmps29
  go_wp2
  go_loop [3, 11] (fun s i => ∃ k : Nat, k ≤ 2 ∧ i = .int .i64 (k : Int) ∧ s = .int .i64 (((if k = 0 then 0 else if k = 1 then n0 else n0 + n1 : Nat)) : Int)) (fun _ i => 2 - (intOf i).toNat)
  case atStart => exact ⟨0, by omega, rfl, rfl⟩
  case round =>
    obtain ⟨k, hk, rfl, rfl⟩ := hrel
    have hk3 : k = 0 ∨ k = 1 ∨ k = 2 := by omega
    rcases hk3 with rfl | rfl | rfl
    · simp only [if_true]
      go_wp2
      go_round
      case rel => exact ⟨1, by omega, by go_num, by go_num⟩
      case measure => simp [intOf]
    · rw [if_neg (by omega), if_pos rfl]
      go_wp2
      go_round
      case rel => exact ⟨2, by omega, by go_num, by first | go_num | (simp; done)⟩
      case measure => simp [intOf]
    · rw [if_neg (by omega), if_neg (by omega)]
      go_wp2_with fail
      refine (HG.out w).mono ?_
      rintro e w2 ⟨A, cap, rfl, ho, hbw⟩
      have HO := Lib.hid ho
      have HBW := Lib.hid hbw
      clear ho hbw
      go_wp2
      go_loopw [6, 27] (fun v i wr => ∃ (k : Nat) (A2 : Option Addr) (m cap2 : Nat), k ≤ 2 ∧ i = .int .i64 (k : Int) ∧ v = .slice A2 m cap2 ∧ Hid (m = (Jn.cat l0 l1 k).length) ∧ m ≤ 400000 * k ∧ wr.ownsRow w.heap.size 5 1 (.slice A2 m cap2) m (bv (Jn.cat l0 l1 k)) ∧ Below w.heap.size w wr) (fun _ i _ => 2 - (intOf i).toNat)
      case atStart => exact ⟨0, A, 0, cap, by omega, rfl, rfl, Lib.hid rfl, by omega, HO.out, HBW.out⟩
      case round =>
        obtain ⟨k, A2, m, cap2, hk, rfl, rfl, HM, hm, ho, hbw⟩ := hrel
        have HO2 := Lib.hid ho
        have HB2 := Lib.hid hbw
        have y0 : wr.cell? ⟨b, 0, none⟩ = some (.slice A0 n0 cap0) := by rw [hbw.cell hb]; exact z0
        have y1 : wr.cell? ⟨b, 1, none⟩ = some (.slice A1 n1 cap1) := by rw [hbw.cell hb]; exact z1
        have hsz := hbw.size
        have hk3 : k = 0 ∨ k = 1 ∨ k = 2 := by omega
        rcases hk3 with rfl | rfl | rfl
        · have HR := Lib.hid (R0.out.to hbw)
          have hm0 : m = 0 := HM.out
          subst hm0
          clear ho hbw
          go_wp2_with (at_builtin; refine wpList_appN rfl _ _ 23 rfl w.heap.size 5 i0 (.int .u8 0) 1 Try.underlying23 hi hz0 hz1 hz2 rfl _ 0 _ rfl HO2.out A0 n0 cap0 (bv l0) rfl (by rw [bv_length]; exact H0.out.symm) C0.out HR.out (bv_one l0) (by unfold maxLen; omega) (by omega) hsz n0 (Nat.zero_add n0).symm ?_; intro A5 cap5 w5 hcap5 hown5 hb5; have HO5 := Lib.hid hown5; have HB5 := Lib.hid (HB2.out.trans hb5); clear hown5 hb5 hcap5)
          go_roundw
          case rel => exact ⟨1, A5, n0, cap5, by omega, by go_num, rfl, Lib.hid H0.out, by omega, HO5.out, HB5.out⟩
          case measure => simp [intOf]
        · have HR := Lib.hid (R1.out.to hbw)
          have hm0 : m = n0 := by rw [H0.out]; exact HM.out
          subst hm0
          clear ho hbw
          have HL := Lib.hid (show m + n1 = (l0 ++ l1).length by rw [List.length_append, ← H0.out, ← H1.out])
          go_wp2_with (at_builtin; refine wpList_appN rfl _ _ 23 rfl w.heap.size 5 i0 (.int .u8 0) 1 Try.underlying23 hi hz0 hz1 hz2 rfl _ m _ rfl HO2.out A1 n1 cap1 (bv l1) rfl (by rw [bv_length]; exact H1.out.symm) C1.out HR.out (bv_one l1) (by unfold maxLen; omega) (by omega) hsz (m + n1) rfl ?_; intro A5 cap5 w5 hcap5 hown5 hb5; have HO5 := Lib.hid hown5; have HB5 := Lib.hid (HB2.out.trans hb5); clear hown5 hb5 hcap5)
          have HO6 := HO5.out
          simp only [Jn.cat] at HO6
          rw [← bv_append] at HO6
          go_roundw
          case rel => exact ⟨2, A5, m + n1, cap5, by omega, by go_num, rfl, HL, by omega, HO6, HB5.out⟩
          case measure => simp [intOf]
        · clear ho hbw
          go_wp2
          go_ret
          exact ⟨A2, m, cap2, rfl, HM.out, (own_cap HO2.out).1, own_none HO2.out, own_rd HO2.out, own_at HO2.out, HB2.out⟩
set_option maxRecDepth 100000 in
set_option maxHeartbeats 3200000 in
theorem append_own (A0 : Option Addr) (n0 cap0 : Nat) (l0 : List UInt8) (h0 : n0 = l0.length) (c0 : A0 = none → cap0 = 0) (E : Jn.Ev) (A : Option Addr) (n cap : Nat) (hn : n = E.mix.length) (w : World) (r0 : Rd w A0 (bv l0)) (hr : Rd w A (iv E.mix)) (hm : E.mix.length ≤ 1000000000000) (hs : n0 ≤ 400000) :
    Calls Try.prog 16 #[.slice A0 n0 cap0, E.val A n cap] w (RetPF w (Jn.app l0 E)) := by
  have HP := Lib.hid (fun w' (hb : Below w.heap.size w w') => put_any E A n cap hn w' (hr.to hb) hm)
  have R0 := Lib.hid r0
  by_cases hc : Jn.check E = 0
  · have HS : Bx (Jn.app l0 E = (l0 ++ Cr.frame (Jn.bytes E), 0)) := ⟨by unfold Jn.app; rw [if_neg (by omega)]⟩
    rw [Jn.put_ok hc] at HP
    have HFR : Bx (Cr.fr (Jn.bytes E) = (Cr.frame (Jn.bytes E), 0)) := ⟨Jn.fr_bytes hc⟩
    have HBL : Bx ((Jn.bytes E).length ≤ 300) := ⟨Jn.bytes_len hc⟩
    have HFL : Bx ((Cr.frame (Jn.bytes E)).length ≤ 400) := ⟨Jn.frame_len hc⟩
    generalize Jn.app l0 E = pp at HS ⊢
    generalize Cr.frame (Jn.bytes E) = fb at HS HFR HFL
    generalize Jn.bytes E = by_ at HP HFR HBL
    unfold Jn.Ev.val at HP ⊢
    obtain ⟨K, T, a, b, c, d, mix⟩ := E
    simp only at hn hr hm HP ⊢
    have H0 : Bx (n0 = l0.length) := ⟨h0⟩
    have C0 := Lib.hid c0
    clear hc hr hm hn r0 h0 c0
    go_enter Try.func16, Try.ntmps16
    go_wp2_with fail
    refine (HP.out _ (below_new w _)).mono ?_
    rintro e w1 ⟨A1, n1, cap1, rfl, hn1, hcap1, hc1, hr1, hb1⟩
    try simp only at hn1 hr1
    have HB1 := Lib.hid (on (below_new w _) hb1)
    have HF0 := frame_any A1 n1 cap1 by_ hn1 hc1 w1 hr1 (by have := HBL.out; omega)
    rw [HFR.out] at HF0
    have HF := Lib.hid HF0
    clear hn1 hcap1 hc1 hr1 hb1 HF0
    go_wp2_with fail
    refine (HF.out).mono ?_
    rintro e w2 ⟨A2, n2, cap2, rfl, hn2, ho2, hb2⟩
    try simp only at hn2 ho2
    have HB2 := Lib.hid (on HB1.out hb2)
    have HCC := Lib.hid (concat_own A0 n0 cap0 l0 H0.out C0.out A2 n2 cap2 fb hn2 (own_none ho2) w2.heap.size (w2.alloc (.cells #[.slice A0 n0 cap0, .slice A2 n2 cap2] 23)) (by simp) (by unfold World.cell?; rw [heap_alloc_new]; simp) (by unfold World.cell?; rw [heap_alloc_new]; simp)
      ((R0.out.to HB2.out).to (below_new w2 _)) ((own_rd ho2).to (below_new w2 _)) hs (by have := HFL.out; omega))
    clear hn2 ho2 hb2 hs
    go_wp2_with fail
    refine (HCC.out).mono ?_
    rintro e w3 ⟨A3, n3, cap3, rfl, hn3, hc3, hk3, hr3, hf3, hb3⟩
    have HX : Bx (RetPF w pp (.returned (.tuple #[.slice A3 n3 cap3, .int .i64 0])) w3) := ⟨by
      rw [HS.out]
      exact ⟨A3, n3, cap3, rfl, hn3, hc3, hk3, hr3, fun a ha => by have h1 := hf3 a ha; have h2 := HB2.out.size; simp at h1; omega, on HB2.out (on (below_new w2 _) hb3)⟩⟩
    clear hn3 hc3 hk3 hr3 hf3 hb3
    go_wp2
    go_ret2
    exact HX.out
  · have HF : Bx (Jn.app l0 E = ([], Jn.check E)) := ⟨by unfold Jn.app; rw [if_pos hc]⟩
    rw [Jn.put_err hc] at HP
    generalize Jn.app l0 E = pp at HF ⊢
    generalize Jn.check E = cc at HP HF hc
    unfold Jn.Ev.val at HP ⊢
    obtain ⟨K, T, a, b, c, d, mix⟩ := E
    simp only at hn hr hm HP ⊢
    have hcf : (cc == 0) = false := beq_f hc
    clear hc hr hm hn r0 h0 c0 hs
    go_enter Try.func16, Try.ntmps16
    go_wp2_with fail
    refine (HP.out _ (below_new w _)).mono ?_
    rintro e w1 ⟨A1, n1, cap1, rfl, hn1, hcap1, hc1, hr1, hb1⟩
    have HB1 := Lib.hid (on (below_new w _) hb1)
    clear hn1 hcap1 hc1 hr1 hb1
    go_wp2
    go_ret2
    exact RetPF.fail HF.out HB1.out
end Go.Proofs.Ytcpdfgckfefboaa
