/- The walks of slices.Grow, slices.Concat and Append. -/
import Derived.Test.YtcpdfgckfefboaaJnPut
import Derived.Lib.AppendZerosOnto
namespace Go.Proofs.Ytcpdfgckfefboaa
open Go.RowKit

set_option maxRecDepth 100000 in
set_option maxHeartbeats 1600000 in
theorem grow_zero (w : World) : Calls Try.prog 47 #[.slice none 0 0, .int .i64 0] w fun e w' => e = .returned (.slice none 0 0) ∧ w = w' := by
  go_enter Try.func47, Try.ntmps47
  go_wp2
  go_ret
  exact ⟨rfl, rfl⟩

section
variable {P : Program} {w : World} {ops : Array Oper} {rest : List Oper} {o : Oper} {a : Act} {Q : Exit → Act → World → Prop}
/-- A builtin append of which the run is known. -/
theorem wpList_appRun (hgd : o.guard = none) (s x : Operand) (t tn : TypeId) (ho : o.op = .call { callee := .builtin .append, args := #[s, x], argTypes := #[t, tn] })
    (sv xv v' : Value) (w' : World) (hs : a.eval s = sv) (hx : a.eval x = xv) (hrun : (Builtin.append_ #[t, tn] o.type #[sv, xv]).run P w = .ok v' w') (h : wpList P ops Q rest (a.put o.dst v') w') : wpList P ops Q (o :: rest) a w :=
  wpList_plain hgd fun K hK => by
    unfold Oper.wp
    simp [execOp, ho, resolve, invoke, builtin, hs, hx, hrun, Result.andThen]
    exact hK _ _ h
end

set_option maxRecDepth 100000 in
set_option maxHeartbeats 1600000 in
theorem grow_some (k : Nat) (h0 : 0 < k) (hk : k ≤ 1000000) (w : World) : Calls Try.prog 47 #[.slice none 0 0, .int .i64 (k : Int)] w fun e w' => ∃ cap, e = .returned (.slice (some ⟨w.heap.size, 0, none⟩) 0 cap) ∧ w'.ownsRow w.heap.size 5 1 (.slice (some ⟨w.heap.size, 0, none⟩) 0 cap) 0 [] ∧ Below w.heap.size w w' := by
  obtain ⟨i0, hi, hz0, hz1, hz2⟩ := info_parts info_u8
  have hkp : (0 : Int) < (k : Int) := by omega
  have hkn : ¬ (k : Int) < 0 := by omega
  go_enter Try.func47, Try.ntmps47
  have hrun := Lib.hid (Lib.run_append_grow_zeros (P := Try.prog) w 23 3 23 5 i0 (.int .u8 0) .i64 .i64 Try.underlying23 Try.underlying3 hi hz0 none 0 0 [] (by simp [Builtin.firstCells, go_sem]) k h0 (by omega) (by omega) (by omega) (by rw [hz2]; omega) (by rw [hz2]; have := nextslicecap_le (need := 0 + k) (old := 0) (by omega); omega))
  go_wp2_with (at_builtin; refine wpList_appRun rfl _ _ _ _ rfl _ _ _ _ rfl rfl hrun.out ?_)
  go_ret
  have hg := grownCap_ge w k 0 5
  have hx := grownCap_le_maxLen w k 0 5 (by unfold maxLen; omega)
  generalize grownCap w k 0 5 = cc at hg hx
  refine ⟨cc, rfl, ⟨rfl, .inr ⟨w.heap.size, cc, _, rfl, Nat.le_refl _, heap_alloc_new w _, Nat.zero_le _, hx, ?_, by simp⟩⟩, (below_new w _).drew⟩
  simp [Builtin.zeroCells]
  omega
/-- What the two parts give up to part k. -/
def Jn.cat (l0 l1 : List UInt8) : Nat → List UInt8
  | 0 => []
  | 1 => l0
  | _ => l0 ++ l1

set_option maxRecDepth 100000 in
set_option maxHeartbeats 3200000 in
theorem concat_any (A0 : Option Addr) (n0 cap0 : Nat) (l0 : List UInt8) (h0 : n0 = l0.length) (c0 : A0 = none → cap0 = 0) (A1 : Option Addr) (n1 cap1 : Nat) (l1 : List UInt8) (h1 : n1 = l1.length) (c1 : A1 = none → cap1 = 0)
    (b : Nat) (w : World) (hb : b < w.heap.size) (z0 : w.cell? ⟨b, 0, none⟩ = some (.slice A0 n0 cap0)) (z1 : w.cell? ⟨b, 1, none⟩ = some (.slice A1 n1 cap1)) (r0 : Rd w A0 (bv l0)) (r1 : Rd w A1 (bv l1)) (hs : n0 ≤ 400000) (hs1 : n1 ≤ 400000) :
    Calls Try.prog 29 #[.slice (some ⟨b, 0, none⟩) 2 2] w (fun e w' => ∃ A n cap, e = .returned (.slice A n cap) ∧ n = (l0 ++ l1).length ∧ n ≤ cap ∧ (A = none → cap = 0) ∧ Rd w' A (bv (l0 ++ l1)) ∧ Below w.heap.size w w') := by
  obtain ⟨i0, hi, hz0, hz1, hz2⟩ := info_parts info_u8
  have H0 := Lib.hid h0
  have H1 := Lib.hid h1
  have C0 := Lib.hid c0
  have C1 := Lib.hid c1
  have R0 := Lib.hid r0
  have R1 := Lib.hid r1
  have HG := Lib.hid (fun w' => show Calls Try.prog 47 #[.slice none 0 0, .int .i64 ((n0 + n1 : Nat) : Int)] w' fun e w2 => ∃ A cap, e = .returned (.slice A 0 cap) ∧ w2.ownsRow w'.heap.size 5 1 (.slice A 0 cap) 0 [] ∧ Below w'.heap.size w' w2 by
    by_cases hk : n0 + n1 = 0
    · rw [hk]
      refine (grow_zero w').mono ?_
      rintro e w2 ⟨rfl, rfl⟩
      exact ⟨none, 0, rfl, World.ownsRow_nil _ _ _ _, Below.refl _ _⟩
    · refine (grow_some (n0 + n1) (by omega) (by omega) w').mono ?_
      rintro e w2 ⟨cap, rfl, ho, hb⟩
      exact ⟨_, cap, rfl, ho, hb⟩)
  clear h0 h1 c0 c1 r0 r1
  go_enter Try.func29, Try.ntmps29
  go_wp2
  go_loop [3, 11] (fun s i => ∃ k : Nat, k ≤ 2 ∧ i = .int .i64 (k : Int) ∧ s = .int .i64 (((if k = 0 then 0 else if k = 1 then n0 else n0 + n1 : Nat)) : Int)) (fun _ i => 2 - (intOf i).toNat)
  case atStart => exact ⟨0, by omega, rfl, rfl⟩
  case round =>
    obtain ⟨k, hk, rfl, rfl⟩ := hrel
    have hk3 : k = 0 ∨ k = 1 ∨ k = 2 := by omega
    rcases hk3 with rfl | rfl | rfl
    · simp only [if_true]
      go_wp2
      go_round
      case rel => exact ⟨1, by omega, by go_num, by go_num⟩
      case measure => simp [intOf]
    · rw [if_neg (by omega), if_pos rfl]
      go_wp2
      go_round
      case rel => exact ⟨2, by omega, by go_num, by first | go_num | (simp; done)⟩
      case measure => simp [intOf]
    · rw [if_neg (by omega), if_neg (by omega)]
      go_wp2_with fail
      refine (HG.out w).mono ?_
      rintro e w2 ⟨A, cap, rfl, ho, hbw⟩
      have HO := Lib.hid ho
      have HBW := Lib.hid hbw
      clear ho hbw
      go_wp2
      go_loopw [6, 27] (fun v i wr => ∃ (k : Nat) (A2 : Option Addr) (m cap2 : Nat), k ≤ 2 ∧ i = .int .i64 (k : Int) ∧ v = .slice A2 m cap2 ∧ Hid (m = (Jn.cat l0 l1 k).length) ∧ m ≤ 400000 * k ∧ wr.ownsRow w.heap.size 5 1 (.slice A2 m cap2) m (bv (Jn.cat l0 l1 k)) ∧ Below w.heap.size w wr) (fun _ i _ => 2 - (intOf i).toNat)
      case atStart => exact ⟨0, A, 0, cap, by omega, rfl, rfl, Lib.hid rfl, by omega, HO.out, HBW.out⟩
      case round =>
        obtain ⟨k, A2, m, cap2, hk, rfl, rfl, HM, hm, ho, hbw⟩ := hrel
        have HO2 := Lib.hid ho
        have HB2 := Lib.hid hbw
        have y0 : wr.cell? ⟨b, 0, none⟩ = some (.slice A0 n0 cap0) := by rw [hbw.cell hb]; exact z0
        have y1 : wr.cell? ⟨b, 1, none⟩ = some (.slice A1 n1 cap1) := by rw [hbw.cell hb]; exact z1
        have hsz := hbw.size
        have hk3 : k = 0 ∨ k = 1 ∨ k = 2 := by omega
        rcases hk3 with rfl | rfl | rfl
        · have HR := Lib.hid (R0.out.to hbw)
          have hm0 : m = 0 := HM.out
          subst hm0
          clear ho hbw
          go_wp2_with (at_builtin; refine wpList_appN rfl _ _ 23 rfl w.heap.size 5 i0 (.int .u8 0) 1 Try.underlying23 hi hz0 hz1 hz2 rfl _ 0 _ rfl HO2.out A0 n0 cap0 (bv l0) rfl (by rw [bv_length]; exact H0.out.symm) C0.out HR.out (bv_one l0) (by unfold maxLen; omega) (by omega) hsz n0 (Nat.zero_add n0).symm ?_; intro A5 cap5 w5 hcap5 hown5 hb5; have HO5 := Lib.hid hown5; have HB5 := Lib.hid (HB2.out.trans hb5); clear hown5 hb5 hcap5)
          go_roundw
          case rel => exact ⟨1, A5, n0, cap5, by omega, by go_num, rfl, Lib.hid H0.out, by omega, HO5.out, HB5.out⟩
          case measure => simp [intOf]
        · have HR := Lib.hid (R1.out.to hbw)
          have hm0 : m = n0 := by rw [H0.out]; exact HM.out
          subst hm0
          clear ho hbw
          have HL := Lib.hid (show m + n1 = (l0 ++ l1).length by rw [List.length_append, ← H0.out, ← H1.out])
          go_wp2_with (at_builtin; refine wpList_appN rfl _ _ 23 rfl w.heap.size 5 i0 (.int .u8 0) 1 Try.underlying23 hi hz0 hz1 hz2 rfl _ m _ rfl HO2.out A1 n1 cap1 (bv l1) rfl (by rw [bv_length]; exact H1.out.symm) C1.out HR.out (bv_one l1) (by unfold maxLen; omega) (by omega) hsz (m + n1) rfl ?_; intro A5 cap5 w5 hcap5 hown5 hb5; have HO5 := Lib.hid hown5; have HB5 := Lib.hid (HB2.out.trans hb5); clear hown5 hb5 hcap5)
          have HO6 := HO5.out
          simp only [Jn.cat] at HO6
          rw [← bv_append] at HO6
          go_roundw
          case rel => exact ⟨2, A5, m + n1, cap5, by omega, by go_num, rfl, HL, by omega, HO6, HB5.out⟩
          case measure => simp [intOf]
        · clear ho hbw
          go_wp2
          go_ret
          exact ⟨A2, m, cap2, rfl, HM.out, (own_cap HO2.out).1, own_none HO2.out, own_rd HO2.out, HB2.out⟩
end Go.Proofs.Ytcpdfgckfefboaa
