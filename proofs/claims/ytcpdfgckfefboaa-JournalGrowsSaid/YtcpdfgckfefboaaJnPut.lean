/- The walk of Put. -/
import Derived.Test.YtcpdfgckfefboaaJnCheckB
namespace Go.Proofs.Ytcpdfgckfefboaa
open Go.RowKit
/-- The call returns bytes, to be read, and an error. -/
def RetPB (w : World) (p : List UInt8 × Int) (e : Ending) (w' : World) : Prop :=
  ∃ A n cap, e = .returned (.tuple #[.slice A n cap, .int .i64 p.2]) ∧ n = p.1.length ∧ n ≤ cap ∧ (A = none → cap = 0) ∧ Rd w' A (bv p.1) ∧ Below w.heap.size w w'
theorem RetPB.fail {w w' : World} {p : List UInt8 × Int} {c : Int} (h : p = ([], c)) (hb : Below w.heap.size w w') : RetPB w p (.returned (.tuple #[.slice none 0 0, .int .i64 c])) w' := by
  subst h
  exact ⟨none, 0, 0, rfl, rfl, Nat.le_refl _, fun _ => rfl, Rd.nil _ _, hb⟩
namespace Jn
theorem vi_len : ∀ f u, (Wp.vi f u).length ≤ f + 1 := by
  intro f
  induction f with
  | zero => intro u; simp [Wp.vi]
  | succ f ih =>
    intro u
    unfold Wp.vi
    split
    · simp
    · have := ih (u / 128)
      simp only [List.length_cons]
      omega
theorem putI_len (n : Int) : (Wp.putI n).length ≤ 10 := vi_len 9 _
theorem check_ok {e : Ev} (h : check e = 0) : ¬ badK e.kind ∧ ¬ badT e.at_ ∧ ¬ badN e.a ∧ ¬ badN e.b ∧ ¬ badN e.c ∧ ¬ badN e.d ∧ e.mix.length ≤ 16 ∧ ∀ n ∈ e.mix, ¬ badM n := by
  unfold check at h
  by_cases h1 : badK e.kind
  · rw [if_pos h1] at h; cases h
  rw [if_neg h1] at h
  by_cases h2 : badT e.at_
  · rw [if_pos h2] at h; cases h
  rw [if_neg h2] at h
  by_cases h3 : badN e.a ∨ badN e.b ∨ badN e.c ∨ badN e.d
  · rw [if_pos h3] at h; cases h
  rw [if_neg h3] at h
  by_cases h4 : 16 < e.mix.length
  · rw [if_pos h4] at h; cases h
  rw [if_neg h4] at h
  by_cases h5 : e.mix.any (fun n => decide (badM n)) = true
  · rw [if_pos h5] at h; cases h
  refine ⟨h1, h2, fun x => h3 (.inl x), fun x => h3 (.inr (.inl x)), fun x => h3 (.inr (.inr (.inl x))), fun x => h3 (.inr (.inr (.inr x))), by omega, fun n hn hb => h5 ?_⟩
  rw [List.any_eq_true]
  exact ⟨n, hn, by simpa using hb⟩
theorem put_err {e : Ev} (h : check e ≠ 0) : put e = ([], check e) := by unfold put; rw [if_pos h]
theorem put_ok {e : Ev} (h : check e = 0) : put e = (bytes e, 0) := by unfold put; rw [if_neg (by omega)]
/-- The bytes of the first k integers. -/
def pre (x : List Int) (k : Nat) : List UInt8 := (x.take k).flatMap Wp.putI
theorem pre_succ (x : List Int) (k : Nat) (n : Int) (h : x[k]? = some n) : pre x (k + 1) = pre x k ++ Wp.putI n := by
  unfold pre
  rw [List.take_add_one, h]
  simp
end Jn

set_option maxRecDepth 100000 in
set_option maxHeartbeats 6400000 in
theorem put_any (E : Jn.Ev) (A : Option Addr) (n cap : Nat) (hn : n = E.mix.length) (w : World) (hr : Rd w A (iv E.mix)) (hm : E.mix.length ≤ 1000000000000) :
    Calls Try.prog 19 #[E.val A n cap] w (RetPB w (Jn.put E)) := by
  have HC := Lib.hid (fun w' (hb : Below w.heap.size w w') => check_any E A n cap hn w' (hr.to hb) hm)
  by_cases hc : Jn.check E = 0
  · have HS := Lib.hid (Jn.put_ok hc)
    obtain ⟨q1, q2, q3, q4, q5, q6, q7, q8⟩ := Jn.check_ok hc
    rw [hc] at HC
    unfold Jn.Ev.val at HC ⊢
    obtain ⟨K, T, a, b, c, d, mix⟩ := E
    simp only at hn hr hm HC q1 q2 q3 q4 q5 q6 q7 q8 ⊢
    unfold Jn.badK at q1
    unfold Jn.badT at q2
    unfold Jn.badN at q3 q4 q5 q6
    have HI := Lib.hid (show I64 mix from fun n hn => by have := q8 n hn; unfold Jn.badM at this; omega)
    have HB6 := Lib.hid (show ∀ j, j < 6 → -9223372036854775808 ≤ [K, T, a, b, c, d].getD j 0 ∧ [K, T, a, b, c, d].getD j 0 ≤ 9223372036854775807 from fun j hj => by
      have h6 : j = 0 ∨ j = 1 ∨ j = 2 ∨ j = 3 ∨ j = 4 ∨ j = 5 := by omega
      rcases h6 with rfl | rfl | rfl | rfl | rfl | rfl <;> simp <;> omega)
    have HR0 := Lib.hid hr
    have HM := Lib.hid q7
    subst hn
    clear hr hc q1 q2 q3 q4 q5 q6 q8 hm
    have i0 : ∀ w, (Instr.index 58 (.agg #[.int .i64 K, .int .i64 T, .int .i64 a, .int .i64 b, .int .i64 c, .int .i64 d]) (.int .i64 0)).run Try.prog w = .ok (.int .i64 K) w := fun _ => by kernel_rfl
    have i1 : ∀ w, (Instr.index 58 (.agg #[.int .i64 K, .int .i64 T, .int .i64 a, .int .i64 b, .int .i64 c, .int .i64 d]) (.int .i64 1)).run Try.prog w = .ok (.int .i64 T) w := fun _ => by kernel_rfl
    have i2 : ∀ w, (Instr.index 58 (.agg #[.int .i64 K, .int .i64 T, .int .i64 a, .int .i64 b, .int .i64 c, .int .i64 d]) (.int .i64 2)).run Try.prog w = .ok (.int .i64 a) w := fun _ => by kernel_rfl
    have i3 : ∀ w, (Instr.index 58 (.agg #[.int .i64 K, .int .i64 T, .int .i64 a, .int .i64 b, .int .i64 c, .int .i64 d]) (.int .i64 3)).run Try.prog w = .ok (.int .i64 b) w := fun _ => by kernel_rfl
    have i4 : ∀ w, (Instr.index 58 (.agg #[.int .i64 K, .int .i64 T, .int .i64 a, .int .i64 b, .int .i64 c, .int .i64 d]) (.int .i64 4)).run Try.prog w = .ok (.int .i64 c) w := fun _ => by kernel_rfl
    have i5 : ∀ w, (Instr.index 58 (.agg #[.int .i64 K, .int .i64 T, .int .i64 a, .int .i64 b, .int .i64 c, .int .i64 d]) (.int .i64 5)).run Try.prog w = .ok (.int .i64 d) w := fun _ => by kernel_rfl
    go_enter Try.func19, Try.ntmps19
    go_wp2_with fail
    refine (HC.out _ (below_new w _)).mono ?_
    rintro e w0 ⟨rfl, hb⟩
    have HB0 := Lib.hid ((below_new w _).trans (hb.mono (by simp)) : Below w.heap.size w w0)
    have HR := Lib.hid (HR0.out.to HB0.out)
    have hsz0 : w.heap.size < w0.heap.size := by have := hb.size; simp at this; omega
    have HV0 := Lib.hid (show w0.cell? ⟨w.heap.size, 0, none⟩ = some (.int .i64 K) by
      rw [hb.cell (by simp)]; unfold World.cell?; rw [heap_alloc_new]; simp)
    have HV1 := Lib.hid (show w0.cell? ⟨w.heap.size, 1, none⟩ = some (.int .i64 T) by
      rw [hb.cell (by simp)]; unfold World.cell?; rw [heap_alloc_new]; simp)
    have HV2 := Lib.hid (show w0.cell? ⟨w.heap.size, 2, none⟩ = some (.int .i64 a) by
      rw [hb.cell (by simp)]; unfold World.cell?; rw [heap_alloc_new]; simp)
    have HV3 := Lib.hid (show w0.cell? ⟨w.heap.size, 3, none⟩ = some (.int .i64 b) by
      rw [hb.cell (by simp)]; unfold World.cell?; rw [heap_alloc_new]; simp)
    have HV4 := Lib.hid (show w0.cell? ⟨w.heap.size, 4, none⟩ = some (.int .i64 c) by
      rw [hb.cell (by simp)]; unfold World.cell?; rw [heap_alloc_new]; simp)
    have HV5 := Lib.hid (show w0.cell? ⟨w.heap.size, 5, none⟩ = some (.int .i64 d) by
      rw [hb.cell (by simp)]; unfold World.cell?; rw [heap_alloc_new]; simp)
    have HV6 := Lib.hid (show w0.cell? ⟨w.heap.size, 6, none⟩ = some (.slice A mix.length cap) by
      rw [hb.cell (by simp)]; unfold World.cell?; rw [heap_alloc_new]; simp)
    have HV6b := Lib.hid HV6.out
    have hv0 := HV0.out
    have hv1 := HV1.out
    have hv2 := HV2.out
    have hv3 := HV3.out
    have hv4 := HV4.out
    have hv5 := HV5.out
    clear hb
    go_wp2
    clear hv0 hv1 hv2 hv3 hv4 hv5
    go_loopw [5, 26] (fun bb i wr => ∃ (k : Nat) (A1 : Option Addr) (n1 cap1 : Nat), k ≤ 6 ∧ i = .int .i64 (k : Int) ∧ bb = .slice A1 n1 cap1 ∧ Hid (n1 = (Jn.pre [K, T, a, b, c, d] k).length) ∧ n1 ≤ 10 * k ∧ Rd wr A1 (bv (Jn.pre [K, T, a, b, c, d] k)) ∧ Below w0.heap.size w0 wr) (fun _ i _ => 6 - (intOf i).toNat)
    case atStart => exact ⟨0, none, 0, 0, by omega, rfl, rfl, Lib.hid rfl, by omega, Rd.nil _ _, Below.refl _ _⟩
    case round =>
      obtain ⟨k, A1, n1, cap1, hk, rfl, rfl, HN1, hn1, hr1, hbw⟩ := hrel
      have HB := Lib.hid hbw
      have hsz := hbw.size
      have hk6 : k = 0 ∨ k = 1 ∨ k = 2 ∨ k = 3 ∨ k = 4 ∨ k = 5 ∨ k = 6 := by omega
      rcases hk6 with rfl | rfl | rfl | rfl | rfl | rfl | rfl
      · have HP := Lib.hid (putint_any A1 n1 cap1 (Jn.pre [K, T, a, b, c, d] 0) HN1.out K wr hr1 (HB6.out 0 (by omega)).1 (HB6.out 0 (by omega)).2 (by rw [← HN1.out]; omega))
        rw [← Jn.pre_succ [K, T, a, b, c, d] 0 K rfl] at HP
        have HLN := Lib.hid (show (Jn.pre [K, T, a, b, c, d] (0 + 1)).length ≤ 10 * 1 by
          rw [Jn.pre_succ [K, T, a, b, c, d] 0 K rfl, List.length_append, ← HN1.out]
          have := Jn.putI_len K
          omega)
        clear hbw hr1
        go_wp2_with fail
        refine (HP.out).mono ?_
        rintro e wo ⟨A2, n2, cap2, rfl, hn2, ho, hbo⟩
        have HN2 := Lib.hid hn2
        have HR2 := Lib.hid (own_rd ho)
        have HBO := Lib.hid (on HB.out hbo)
        have hn10 : n2 ≤ 10 * 1 := by rw [hn2]; exact HLN.out
        clear hn2 ho hbo
        go_wp2
        go_roundw
        case rel => exact ⟨1, A2, n2, cap2, by omega, by go_num, rfl, HN2, hn10, HR2.out, HBO.out⟩
        case measure => simp [intOf]
      · have HP := Lib.hid (putint_any A1 n1 cap1 (Jn.pre [K, T, a, b, c, d] 1) HN1.out T wr hr1 (HB6.out 1 (by omega)).1 (HB6.out 1 (by omega)).2 (by rw [← HN1.out]; omega))
        rw [← Jn.pre_succ [K, T, a, b, c, d] 1 T rfl] at HP
        have HLN := Lib.hid (show (Jn.pre [K, T, a, b, c, d] (1 + 1)).length ≤ 10 * 2 by
          rw [Jn.pre_succ [K, T, a, b, c, d] 1 T rfl, List.length_append, ← HN1.out]
          have := Jn.putI_len T
          omega)
        clear hbw hr1
        go_wp2_with fail
        refine (HP.out).mono ?_
        rintro e wo ⟨A2, n2, cap2, rfl, hn2, ho, hbo⟩
        have HN2 := Lib.hid hn2
        have HR2 := Lib.hid (own_rd ho)
        have HBO := Lib.hid (on HB.out hbo)
        have hn10 : n2 ≤ 10 * 2 := by rw [hn2]; exact HLN.out
        clear hn2 ho hbo
        go_wp2
        go_roundw
        case rel => exact ⟨2, A2, n2, cap2, by omega, by go_num, rfl, HN2, hn10, HR2.out, HBO.out⟩
        case measure => simp [intOf]
      · have HP := Lib.hid (putint_any A1 n1 cap1 (Jn.pre [K, T, a, b, c, d] 2) HN1.out a wr hr1 (HB6.out 2 (by omega)).1 (HB6.out 2 (by omega)).2 (by rw [← HN1.out]; omega))
        rw [← Jn.pre_succ [K, T, a, b, c, d] 2 a rfl] at HP
        have HLN := Lib.hid (show (Jn.pre [K, T, a, b, c, d] (2 + 1)).length ≤ 10 * 3 by
          rw [Jn.pre_succ [K, T, a, b, c, d] 2 a rfl, List.length_append, ← HN1.out]
          have := Jn.putI_len a
          omega)
        clear hbw hr1
        go_wp2_with fail
        refine (HP.out).mono ?_
        rintro e wo ⟨A2, n2, cap2, rfl, hn2, ho, hbo⟩
        have HN2 := Lib.hid hn2
        have HR2 := Lib.hid (own_rd ho)
        have HBO := Lib.hid (on HB.out hbo)
        have hn10 : n2 ≤ 10 * 3 := by rw [hn2]; exact HLN.out
        clear hn2 ho hbo
        go_wp2
        go_roundw
        case rel => exact ⟨3, A2, n2, cap2, by omega, by go_num, rfl, HN2, hn10, HR2.out, HBO.out⟩
        case measure => simp [intOf]
      · have HP := Lib.hid (putint_any A1 n1 cap1 (Jn.pre [K, T, a, b, c, d] 3) HN1.out b wr hr1 (HB6.out 3 (by omega)).1 (HB6.out 3 (by omega)).2 (by rw [← HN1.out]; omega))
        rw [← Jn.pre_succ [K, T, a, b, c, d] 3 b rfl] at HP
        have HLN := Lib.hid (show (Jn.pre [K, T, a, b, c, d] (3 + 1)).length ≤ 10 * 4 by
          rw [Jn.pre_succ [K, T, a, b, c, d] 3 b rfl, List.length_append, ← HN1.out]
          have := Jn.putI_len b
          omega)
        clear hbw hr1
        go_wp2_with fail
        refine (HP.out).mono ?_
        rintro e wo ⟨A2, n2, cap2, rfl, hn2, ho, hbo⟩
        have HN2 := Lib.hid hn2
        have HR2 := Lib.hid (own_rd ho)
        have HBO := Lib.hid (on HB.out hbo)
        have hn10 : n2 ≤ 10 * 4 := by rw [hn2]; exact HLN.out
        clear hn2 ho hbo
        go_wp2
        go_roundw
        case rel => exact ⟨4, A2, n2, cap2, by omega, by go_num, rfl, HN2, hn10, HR2.out, HBO.out⟩
        case measure => simp [intOf]
      · have HP := Lib.hid (putint_any A1 n1 cap1 (Jn.pre [K, T, a, b, c, d] 4) HN1.out c wr hr1 (HB6.out 4 (by omega)).1 (HB6.out 4 (by omega)).2 (by rw [← HN1.out]; omega))
        rw [← Jn.pre_succ [K, T, a, b, c, d] 4 c rfl] at HP
        have HLN := Lib.hid (show (Jn.pre [K, T, a, b, c, d] (4 + 1)).length ≤ 10 * 5 by
          rw [Jn.pre_succ [K, T, a, b, c, d] 4 c rfl, List.length_append, ← HN1.out]
          have := Jn.putI_len c
          omega)
        clear hbw hr1
        go_wp2_with fail
        refine (HP.out).mono ?_
        rintro e wo ⟨A2, n2, cap2, rfl, hn2, ho, hbo⟩
        have HN2 := Lib.hid hn2
        have HR2 := Lib.hid (own_rd ho)
        have HBO := Lib.hid (on HB.out hbo)
        have hn10 : n2 ≤ 10 * 5 := by rw [hn2]; exact HLN.out
        clear hn2 ho hbo
        go_wp2
        go_roundw
        case rel => exact ⟨5, A2, n2, cap2, by omega, by go_num, rfl, HN2, hn10, HR2.out, HBO.out⟩
        case measure => simp [intOf]
      · have HP := Lib.hid (putint_any A1 n1 cap1 (Jn.pre [K, T, a, b, c, d] 5) HN1.out d wr hr1 (HB6.out 5 (by omega)).1 (HB6.out 5 (by omega)).2 (by rw [← HN1.out]; omega))
        rw [← Jn.pre_succ [K, T, a, b, c, d] 5 d rfl] at HP
        have HLN := Lib.hid (show (Jn.pre [K, T, a, b, c, d] (5 + 1)).length ≤ 10 * 6 by
          rw [Jn.pre_succ [K, T, a, b, c, d] 5 d rfl, List.length_append, ← HN1.out]
          have := Jn.putI_len d
          omega)
        clear hbw hr1
        go_wp2_with fail
        refine (HP.out).mono ?_
        rintro e wo ⟨A2, n2, cap2, rfl, hn2, ho, hbo⟩
        have HN2 := Lib.hid hn2
        have HR2 := Lib.hid (own_rd ho)
        have HBO := Lib.hid (on HB.out hbo)
        have hn10 : n2 ≤ 10 * 6 := by rw [hn2]; exact HLN.out
        clear hn2 ho hbo
        go_wp2
        go_roundw
        case rel => exact ⟨6, A2, n2, cap2, by omega, by go_num, rfl, HN2, hn10, HR2.out, HBO.out⟩
        case measure => simp [intOf]
      · have hv6 : wr.cell? ⟨w.heap.size, 6, none⟩ = some (.slice A mix.length cap) := by rw [hbw.cell hsz0]; exact HV6b.out
        have HP := Lib.hid (putlist_any A1 n1 cap1 (Jn.pre [K, T, a, b, c, d] 6) HN1.out A mix.length cap mix rfl wr hr1 (HR.out.to hbw) HI.out (by rw [← HN1.out]; omega) (by have := HM.out; omega))
        have HBW := Lib.hid (show Below w.heap.size w wr from HB0.out.trans (hbw.mono (by omega)))
        clear hbw hr1
        go_wp2_with fail
        refine (HP.out).mono ?_
        rintro e wo ⟨A2, n2, cap2, rfl, hn2, ho, hbo⟩
        have HN2 := Lib.hid hn2
        have HO := Lib.hid ho
        have HBO := Lib.hid (on HBW.out hbo)
        clear hn2 ho hbo
        have HE := Lib.hid (show Jn.put ⟨K, T, a, b, c, d, mix⟩ = (Jn.pre [K, T, a, b, c, d] 6 ++ Wp.putN mix, 0) by rw [HS.out]; simp [Jn.bytes, Jn.pre])
        go_wp2
        go_ret2
        refine ⟨A2, n2, cap2, by rw [HE.out]; rfl, by rw [HE.out]; exact HN2.out, (own_cap HO.out).1, own_none HO.out, by rw [HE.out]; exact own_rd HO.out, HBO.out⟩
  · have HF := Lib.hid (Jn.put_err hc)
    unfold Jn.Ev.val at HC ⊢
    generalize Jn.put E = pp at HF ⊢
    generalize Jn.check E = cc at HC hc HF
    obtain ⟨K, T, a, b, c, d, mix⟩ := E
    simp only at HC hn ⊢
    have hcf : (cc == 0) = false := beq_f hc
    clear hc hr hm hn
    go_enter Try.func19, Try.ntmps19
    go_wp2_with fail
    refine (HC.out _ (below_new w _)).mono ?_
    rintro e w0 ⟨rfl, hb⟩
    have HB0 := Lib.hid ((below_new w _).trans (hb.mono (by simp)) : Below w.heap.size w w0)
    clear hb
    go_wp2
    go_ret2
    exact RetPB.fail HF.out HB0.out
end Go.Proofs.Ytcpdfgckfefboaa
