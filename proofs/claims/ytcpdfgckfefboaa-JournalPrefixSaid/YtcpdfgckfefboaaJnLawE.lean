/- The walk of the law JournalPrefix. -/
import Derived.Test.YtcpdfgckfefboaaJnLawD
namespace Go.Proofs.Ytcpdfgckfefboaa
open Go.RowKit
namespace Jn
theorem Evs.takes {w : World} {A : Option Addr} {es : List Ev} (h : Evs w A es) (k : Nat) : Evs w A (es.take k) := fun j e hj => by
  rcases Nat.lt_or_ge j k with hjk | hjk
  · rw [List.getElem?_take_of_lt hjk] at hj; exact h j e hj
  · rw [List.getElem?_take_eq_none hjk] at hj; cases hj
end Jn
theorem rem_at (cut n : Nat) : ∃ p : Nat, Int.tmod (cut : Int) ((n : Int) + 1) = (p : Int) ∧ (cut : Int) % ((n : Int) + 1) = (p : Int) ∧ p ≤ n :=
  ⟨cut % (n + 1), (Int.ofNat_tmod cut (n + 1)).symm, (Int.natCast_emod cut (n + 1)).symm, by have := Nat.mod_lt cut (show 0 < n + 1 by omega); omega⟩

set_option maxRecDepth 100000 in
set_option maxHeartbeats 6400000 in
theorem jprefix_walk (A : Option Addr) (n cap : Nat) (l : List Jn.Ev) (cut : Nat) (hcut : cut < 65536) (w : World) (h : EvsIn w A n cap l) :
    Calls Try.prog 10 #[.slice A n cap, .int .u16 (cut : Int)] w fun e w' => e = .returned (.bool true) ∧ Below w.heap.size w w' := by
  have HG := Lib.hid (great_all A n cap l h.len w h.reads)
  by_cases hg : Jn.great l = true
  · rw [hg] at HG
    clear h hg
    go_enter Try.func10, Try.ntmps10
    go_wp2_with fail
    refine HG.out.mono ?_
    rintro e w' ⟨rfl, rfl⟩
    go_wp2_with fail
    refine (awake_any w).mono ?_
    rintro e w1 ⟨rfl, hb1⟩
    go_wp2
    go_ret
    exact ⟨rfl, hb1⟩
  · have hg' : Jn.great l = false := by simpa using hg
    rw [hg'] at HG
    obtain ⟨hl30, hmx⟩ := Jn.great_no hg'
    have HW := Lib.hid (written_any A n cap l h.len w h.reads hl30 hmx)
    have hup := Jn.kept_up l
    have hkl := Jn.kept_len l
    generalize Jn.kept l = es at HW hup hkl
    have hes : es.length ≤ 30 := by omega
    have HUP : Bx (Jn.Up 0 es) := ⟨hup⟩
    have HJL : Bx ((Jn.jr es).length ≤ 12000) := ⟨by have := Jn.jr_le es hup.all; omega⟩
    have HMX : Bx (∀ e ∈ es, e.mix.length ≤ 16) := ⟨fun e he => (Jn.check_ok (hup.all e he)).2.2.2.2.2.2.1⟩
    have HES : Bx (es.length ≤ 30) := ⟨hes⟩
    clear h hg hg' hl30 hmx hup hkl hes
    go_enter Try.func10, Try.ntmps10
    go_wp2_with fail
    refine HG.out.mono ?_
    rintro e w' ⟨rfl, rfl⟩
    go_wp2_with fail
    refine HW.out.mono ?_
    rintro e w1 ⟨A1, n1, cap1, A2, n2, cap2, A3, n3, cap3, rfl, hn1, hcap1, hc1, hr1, hn2, hcap2, hv2, hn3, hr3, hb1⟩
    have HB1 : Bx (Below w.heap.size w w1) := ⟨hb1⟩
    have HN1 : Bx (n1 = (Jn.jr es).length) := ⟨hn1⟩
    have HN2 : Bx (n2 = es.length) := ⟨hn2⟩
    have hn32 : n3 = n2 := by rw [hn3, hn2]
    subst hn32
    have HV2 : Bx (Jn.Evs w1 A2 es) := ⟨hv2⟩
    have HR3 : Bx (Rd w1 A3 (iv (Jn.ends es))) := ⟨hr3⟩
    have hn1l : n1 ≤ 12000 := by rw [hn1]; exact HJL.out
    have hn2l : n3 ≤ 30 := by rw [hn2]; exact HES.out
    obtain ⟨p, hpp1, hpp2, hp3⟩ := rem_at cut n1
    have HPP : Bx (Int.tmod (cut : Int) ((n1 : Int) + 1) = (p : Int) ∧ (cut : Int) % ((n1 : Int) + 1) = (p : Int)) := ⟨hpp1, hpp2⟩
    clear hpp1 hpp2
    have HRT : Bx (Rd w1 A1 (bv ((Jn.jr es).take p))) := ⟨by rw [bv_take]; exact hr1.take p⟩
    have hpc : (p : Int) ≤ (cap1 : Int) := by omega
    have hrc := recover_any A1 p cap1 ((Jn.jr es).take p) (by rw [List.length_take, ← hn1]; omega) (by omega) w1 HRT.out (by rw [List.length_take, ← hn1]; omega)
    rcases hre : Jn.recover ((Jn.jr es).take p) with ⟨g1, g2⟩
    rw [hre] at hrc
    have HRE : Bx (Jn.recover ((Jn.jr es).take p) = (g1, g2)) := ⟨hre⟩
    have HRC := Lib.hid hrc
    have hwc : wrap64 (cut : Int) = (cut : Int) := Go.IntWalk.wrap64_in _ (by omega)
    have hz : ((n1 : Int) + 1 == 0) = false := beq_f (by omega)
    have hz2 : (0 : Int) < (n1 : Int) + 1 := by omega
    have hc0 : (0 : Int) ≤ (cut : Int) := by omega
    have HP3 : Bx (p ≤ n1) := ⟨hp3⟩
    clear hb1 hn1 hcap1 hc1 hr1 hn2 hv2 hn3 hr3 hre hrc
    obtain ⟨hp1, hp2⟩ := HPP.out
    go_wp2_with fail
    refine HRC.out.mono ?_
    rintro e w4 ⟨A6, n6, cap6, L6, rfl, hn6, hL6, ho6, hg6, hb6⟩
    simp only at hn6 hL6 ⊢
    have HB41 : Bx (Below w1.heap.size w1 w4) := ⟨hb6⟩
    have HB4 : Bx (Below w.heap.size w w4) := ⟨on HB1.out hb6⟩
    have HV6 : Bx (Jn.Evs w4 A6 g1) := ⟨by have := Jn.own7_evs ho6 hg6; rwa [hL6] at this⟩
    have HN6 : Bx (n6 = g1.length) := ⟨hn6⟩
    clear hn6 hL6 ho6 hg6 hb6 hp1 hp2 hwc hz hz2 hc0
    go_wp2
    go_loop [11, 12] (fun i q => ∃ (k W : Nat), k ≤ n3 ∧ i = .int .i64 (k : Int) ∧ q = .int .i64 (W : Int) ∧ Bx (W = (Jn.jr (es.take k)).length ∧ W ≤ p)) (fun i _ => n3 - (intOf i).toNat)
    case atStart => exact ⟨0, 0, by omega, rfl, rfl, ⟨by simp [Jn.jr], by omega⟩⟩
    case round =>
      obtain ⟨k, W, hk, rfl, rfl, HKW⟩ := hrel
      by_cases hlt : k < n3
      · have hki : (k : Int) < (n3 : Int) := by omega
        have hkl : k < es.length := by rw [← HN2.out]; exact hlt
        obtain ⟨b3, off3, hA3, hb3, hc3⟩ := (HR3.out.to HB41.out) k _ (iv_get (Jn.ends_get es k hkl))
        obtain ⟨Ek, hek⟩ : ∃ Ek, Ek = (Jn.jr (es.take (k + 1))).length := ⟨_, rfl⟩
        rw [← hek] at hc3
        subst hA3
        by_cases hle : Ek ≤ p
        · have hle' : (Ek : Int) ≤ (p : Int) := by omega
          have HK2 : Bx (Ek = (Jn.jr (es.take (k + 1))).length ∧ Ek ≤ p) := ⟨hek, hle⟩
          clear hek hle
          go_wp2
          go_round
          case rel => exact ⟨k + 1, Ek, by omega, by go_num, rfl, HK2⟩
          case measure => simp [intOf]; omega
        · have hle' : ¬ (Ek : Int) ≤ (p : Int) := by omega
          have hrk := Jn.recover_cut es HUP.out p k (by omega) (by rw [← HKW.out.1]; exact HKW.out.2) (.inr (by rw [← hek]; omega))
          rw [HRE.out, ← HKW.out.1] at hrk
          obtain ⟨rfl, rfl⟩ := Prod.mk.inj hrk
          have hn6k : n6 = k := by rw [HN6.out, List.length_take]; omega
          have HS := Lib.hid (sames_any A6 n6 cap6 (es.take k) HN6.out A2 k cap2 (es.take k) (by rw [← HN6.out]; exact hn6k.symm) w4 HV6.out ((HV2.out.to HB41.out).takes k) (by rw [← HN6.out]; omega) (fun e he => by have := HMX.out e (List.mem_of_mem_take he); omega))
          rw [show decide (es.take k = es.take k) = true by simp] at HS
          have hkc : (k : Int) ≤ (cap2 : Int) := by omega
          have hww : ((g2 : Int) == (g2 : Int)) = true := by simp
          clear hek hle hrk hn6k
          go_wp2_with fail
          refine HS.out.mono ?_
          rintro e w5 ⟨rfl, hb5⟩
          have HB5 : Bx (Below w.heap.size w w5) := ⟨on HB4.out hb5⟩
          clear hb5
          go_wp2_with fail
          refine (awake_any w5).mono ?_
          rintro e w6 ⟨rfl, hb6⟩
          go_wp2
          go_ret
          exact ⟨rfl, on HB5.out hb6⟩
      · have hki : ¬ (k : Int) < (n3 : Int) := by omega
        have hkn : k = n3 := by omega
        have hrk := Jn.recover_cut es HUP.out p k (by rw [← HN2.out]; exact hk) (by rw [← HKW.out.1]; exact HKW.out.2) (.inl (by rw [← HN2.out]; exact hkn))
        rw [HRE.out, ← HKW.out.1] at hrk
        obtain ⟨rfl, rfl⟩ := Prod.mk.inj hrk
        have hn6k : n6 = k := by rw [HN6.out, List.length_take, ← HN2.out]; omega
        have HS := Lib.hid (sames_any A6 n6 cap6 (es.take k) HN6.out A2 k cap2 (es.take k) (by rw [← HN6.out]; exact hn6k.symm) w4 HV6.out ((HV2.out.to HB41.out).takes k) (by rw [← HN6.out]; omega) (fun e he => by have := HMX.out e (List.mem_of_mem_take he); omega))
        rw [show decide (es.take k = es.take k) = true by simp] at HS
        have hkc : (k : Int) ≤ (cap2 : Int) := by omega
        have hww : ((g2 : Int) == (g2 : Int)) = true := by simp
        clear hrk hn6k hkn
        go_wp2_with fail
        refine HS.out.mono ?_
        rintro e w5 ⟨rfl, hb5⟩
        have HB5 : Bx (Below w.heap.size w w5) := ⟨on HB4.out hb5⟩
        clear hb5
        go_wp2_with fail
        refine (awake_any w5).mono ?_
        rintro e w6 ⟨rfl, hb6⟩
        go_wp2
        go_ret
        exact ⟨rfl, on HB5.out hb6⟩
theorem jprefix_walk_int (A : Option Addr) (n cap : Nat) (l : List Jn.Ev) (cut : Int) (w : World) (h : EvsIn w A n cap l) (hc : 0 ≤ cut ∧ cut ≤ 65535) :
    Calls Try.prog 10 #[.slice A n cap, .int .u16 cut] w fun e w' => e = .returned (.bool true) ∧ Below w.heap.size w w' := by
  obtain ⟨c, rfl⟩ := Int.eq_ofNat_of_zero_le hc.1
  exact jprefix_walk A n cap l c (by omega) w h
end Go.Proofs.Ytcpdfgckfefboaa
