/- The walk of the law WireShort. -/
import Derived.Test.YtfpealokldbabaaWireLawD
import Derived.Test.YtfpealokldbabaaWireLaws
import Derived.Deep.CutRange
import Derived.Deep.QuietTactic
import Derived.BigQuiet
namespace Go.Proofs.Ytfpealokldbabaa
open Go.RowKit

theorem box4 {w w0 : World} {v0 v1 v2 v3 : Value} {t : TypeId} (hw : w.alloc (.cells #[v0, v1, v2, v3] t) = w0) :
    w0.cell? ⟨w.heap.size, 0, none⟩ = some v0 ∧ w0.cell? ⟨w.heap.size, 1, none⟩ = some v1 ∧ w0.cell? ⟨w.heap.size, 2, none⟩ = some v2 ∧ w0.cell? ⟨w.heap.size, 3, none⟩ = some v3 := by
  subst hw
  have h := lit_rd w _ rfl [v0, v1, v2, v3] t
  refine ⟨?_, ?_, ?_, ?_⟩
  · obtain ⟨b, off, e, _, hc⟩ := h 0 v0 rfl
    cases e
    simpa only [Nat.zero_add] using hc
  · obtain ⟨b, off, e, _, hc⟩ := h 1 v1 rfl
    cases e
    simpa only [Nat.zero_add] using hc
  · obtain ⟨b, off, e, _, hc⟩ := h 2 v2 rfl
    cases e
    simpa only [Nat.zero_add] using hc
  · obtain ⟨b, off, e, _, hc⟩ := h 3 v3 rfl
    cases e
    simpa only [Nat.zero_add] using hc

theorem rem_at (cut n : Nat) (hn : 0 < n) : ∃ p : Nat, p = cut % n ∧ Int.tmod (cut : Int) (n : Int) = (p : Int) ∧ p < n :=
  ⟨cut % n, rfl, (Int.ofNat_tmod cut n).symm, Nat.mod_lt _ hn⟩

theorem size_list (s : ByteArray) : (s.size : Int) = ((s.data.toList.length : Nat) : Int) := rfl
theorem take_len {r : List UInt8} {p n : Nat} (hp : p < n) (hn : n = r.length) : p = (r.take p).length := by rw [List.length_take]; omega
theorem take_le {r : List UInt8} {p n : Nat} (hp : p < n) (hn : n = r.length) (h : n ≤ 100000) : (r.take p).length ≤ 1000000000000 := by rw [List.length_take]; omega
theorem rd_take {w : World} {A : Option Addr} {r : List UInt8} (h : Rd w A (bv r)) (p : Nat) : Rd w A (bv (r.take p)) := by rw [bv_take]; exact h.take p

set_option maxRecDepth 100000 in
set_option maxHeartbeats 6400000 in
theorem short_walk (u : Nat) (z : Int) (s : ByteArray) (A : Option Addr) (n cap : Nat) (l : List Int) (cut : Nat) (w : World) (hu : u < 18446744073709551616)
    (hz : -9223372036854775808 ≤ z ∧ z ≤ 9223372036854775807) (h : IntsIn w A n cap l) (hcut : cut < 65536) :
    Calls Try.prog 10 #[.agg #[.int .u64 (u : Int), .int .i64 z, .string s, .slice A n cap], .int .u16 (cut : Int)] w fun e w' => e = .returned (.bool true) ∧ Below w.heap.size w w' := by
  by_cases hn : s.size ≤ 5000 ∧ n ≤ 5000
  · have HS := Lib.hid (fun w => small_yes none 0 0 s A n cap w (by omega) hn.1 hn.2)
    go_enter Try.func10, Try.ntmps10
    go_wp2_with fail
    refine (HS.out _).mono ?_
    rintro e w0 ⟨rfl, hw0⟩
    obtain ⟨c0, c1, c2, c3⟩ := box4 hw0
    have hb0 : Below w.heap.size w w0 := by rw [← hw0]; exact (Below.refl _ _).alloc (Nat.le_refl _) _
    have hsz : w.heap.size < w0.heap.size := by rw [← hw0]; simp
    clear hw0 HS
    have hl : l.length ≤ 5000 := by rw [← h.len]; exact hn.2
    have H1 := Lib.hid (fun w' (hb : Below w0.heap.size w0 w') => putuint_any none 0 0 [] rfl u w' (Rd.nil _ _) hu (by decide))
    have HP1 := Lib.hid (Wp.takeU_cut u)
    have hlen1 : 1 ≤ (Wp.varint u).length := (Wp.varint_len _).1
    have hleM1 : (Wp.varint u).length ≤ 100000 := Nat.le_trans (Wp.varint_len _).2 (by decide)
    have H2 := Lib.hid (fun w' (hb : Below w0.heap.size w0 w') => putint_any none 0 0 [] rfl z w' (Rd.nil _ _) hz.1 hz.2 (by decide))
    have HP2 := Lib.hid (Wp.takeI_cut z)
    have hlen2 : 1 ≤ (Wp.putI z).length := (Wp.varint_len _).1
    have hleM2 : (Wp.putI z).length ≤ 100000 := Nat.le_trans (Wp.varint_len _).2 (by decide)
    have H3 := Lib.hid (fun w' (hb : Below w0.heap.size w0 w') => puttext_any none 0 0 [] rfl s w' (Rd.nil _ _) (by decide) (by omega))
    have HP3 := Lib.hid (Wp.takeT_cut s.data.toList (by show s.size < _; omega))
    have hlen3 : 1 ≤ (Wp.putT s.data.toList).length := by unfold Wp.putT; rw [List.length_append]; have := (Wp.varint_len s.data.toList.length).1; omega
    have hleM3 : (Wp.putT s.data.toList).length ≤ 100000 := by unfold Wp.putT; rw [List.length_append]; have := (Wp.varint_len s.data.toList.length).2; have : s.data.toList.length = s.size := rfl; omega
    have H4 := Lib.hid (fun w' (hb : Below w0.heap.size w0 w') => putlist_any none 0 0 [] rfl A n cap l h.len w' (Rd.nil _ _) (h.reads.to (hb0.trans (hb.mono (Nat.le_of_lt hsz)))) h.i64 (by decide) (by omega))
    have HP4 := Lib.hid (Wp.takeN_cut l (by omega) h.i64)
    have hlen4 : 1 ≤ (Wp.putN l).length := by unfold Wp.putN; rw [List.length_append]; have := (Wp.varint_len l.length).1; omega
    have hleM4 : (Wp.putN l).length ≤ 100000 := by unfold Wp.putN; rw [List.length_append]; have := (Wp.varint_len l.length).2; have := flat_len l; omega
    simp only [List.nil_append] at H1
    simp only [List.nil_append] at H2
    simp only [List.nil_append] at H3
    simp only [List.nil_append] at H4
    generalize Wp.varint u = r1 at H1 HP1 hlen1 hleM1
    generalize Wp.putI z = r2 at H2 HP2 hlen2 hleM2
    generalize Wp.putT s.data.toList = r3 at H3 HP3 hlen3 hleM3
    generalize Wp.putN l = r4 at H4 HP4 hlen4 hleM4
    have HK := Lib.hid (fun (w' : World) (hb : Below w0.heap.size w0 w') => (show w'.cell? ⟨w.heap.size, 0, none⟩ = some (.int .u64 (u : Int)) ∧ w'.cell? ⟨w.heap.size, 1, none⟩ = some (.int .i64 z) ∧ w'.cell? ⟨w.heap.size, 2, none⟩ = some (.string s) ∧ w'.cell? ⟨w.heap.size, 3, none⟩ = some (.slice A n cap) from
      ⟨(hb.cell hsz).trans c0, (hb.cell hsz).trans c1, (hb.cell hsz).trans c2, (hb.cell hsz).trans c3⟩))
    have HN := Lib.hid h.len
    have HB0 := Lib.hid hb0
    have HSZ := Lib.hid hsz
    have HLN := Lib.hid (show s.size ≤ 5000 ∧ n ≤ 5000 ∧ cut < 65536 from ⟨hn.1, hn.2, hcut⟩)
    have HLE1 := Lib.hid (And.intro hlen1 hleM1)
    have HLE2 := Lib.hid (And.intro hlen2 hleM2)
    have HLE3 := Lib.hid (And.intro hlen3 hleM3)
    have HLE4 := Lib.hid (And.intro hlen4 hleM4)
    clear h hn hl hb0 hsz hu hz hcut c0 c1 hlen1 hleM1 hlen2 hleM2 hlen3 hleM3 hlen4 hleM4
    go_upto_region 3 with fail
    clear c2 c3
    have HD := Lib.hid (show Below w0.heap.size w0 w0.drew from (Below.refl _ _).drew)
    go_region_held (fun w' => w'.cell? ⟨w.heap.size, 0, none⟩ = some (.int .u64 (u : Int)) ∧ w'.cell? ⟨w.heap.size, 1, none⟩ = some (.int .i64 z) ∧ w'.cell? ⟨w.heap.size, 2, none⟩ = some (.string s) ∧ w'.cell? ⟨w.heap.size, 3, none⟩ = some (.slice A n cap)) (first | exact HK.out _ HD.out | exact HK.out _ HB1.out | exact HK.out _ HB2.out | exact HK.out _ HB3.out | exact HK.out _ HB4.out) (first
      | (go_at_call 15; refine (H1.out w0.drew HD.out).mono ?_; rintro e w1 ⟨A1, n1, cap1, rfl, hl1, hown1, hb1⟩; have HB1 := Lib.hid (on HD.out hb1); have HX1 := Lib.hid (own_rd hown1); have HQ1 := Lib.hid (own_cap hown1); have HL1 := Lib.hid hl1; have HW1 := Lib.hid hb1; clear hown1 hb1 hl1)
      | (go_at_call 19; refine (H2.out w1 HB1.out).mono ?_; rintro e w2 ⟨A2, n2, cap2, rfl, hl2, hown2, hb2⟩; have HB2 := Lib.hid (on HB1.out hb2); have HX2 := Lib.hid (own_rd hown2); have HQ2 := Lib.hid (own_cap hown2); have HL2 := Lib.hid hl2; have HW2 := Lib.hid hb2; clear hown2 hb2 hl2)
      | (go_at_call 23; refine (H3.out w2 HB2.out).mono ?_; rintro e w3 ⟨A3, n3, cap3, rfl, hl3, hown3, hb3⟩; have HB3 := Lib.hid (on HB2.out hb3); have HX3 := Lib.hid (own_rd hown3); have HQ3 := Lib.hid (own_cap hown3); have HL3 := Lib.hid hl3; have HW3 := Lib.hid hb3; clear hown3 hb3 hl3)
      | (go_at_call 27; refine (H4.out w3 HB3.out).mono ?_; rintro e w4 ⟨A4, n4, cap4, rfl, hl4, hown4, hb4⟩; have HB4 := Lib.hid (on HB3.out hb4); have HX4 := Lib.hid (own_rd hown4); have HQ4 := Lib.hid (own_cap hown4); have HL4 := Lib.hid hl4; have HW4 := Lib.hid hb4; clear hown4 hb4 hl4))
    have hb1 : (n1 : Int) ≤ (cap1 : Int) ∧ n1 ≤ 100000 ∧ 0 < n1 := by
      have h1 := HQ1.out.1
      have h2 := HLE1.out
      have h3 := HL1.out
      omega
    obtain ⟨p1, hp1, hr1, hpn1⟩ := rem_at cut n1 hb1.2.2
    have hz1 : ((n1 : Int) == 0) = false := by simp; omega
    have hnz1 : (0 : Int) < (n1 : Int) := by have := hb1.2.2; omega
    have hpc1 : (p1 : Int) ≤ (cap1 : Int) := by have := hb1.1; omega
    have HPN1 := Lib.hid hpn1
    clear hpn1 hp1
    have hb2 : (n2 : Int) ≤ (cap2 : Int) ∧ n2 ≤ 100000 ∧ 0 < n2 := by
      have h1 := HQ2.out.1
      have h2 := HLE2.out
      have h3 := HL2.out
      omega
    obtain ⟨p2, hp2, hr2, hpn2⟩ := rem_at cut n2 hb2.2.2
    have hz2 : ((n2 : Int) == 0) = false := by simp; omega
    have hnz2 : (0 : Int) < (n2 : Int) := by have := hb2.2.2; omega
    have hpc2 : (p2 : Int) ≤ (cap2 : Int) := by have := hb2.1; omega
    have HPN2 := Lib.hid hpn2
    clear hpn2 hp2
    have hb3 : (n3 : Int) ≤ (cap3 : Int) ∧ n3 ≤ 100000 ∧ 0 < n3 := by
      have h1 := HQ3.out.1
      have h2 := HLE3.out
      have h3 := HL3.out
      omega
    obtain ⟨p3, hp3, hr3, hpn3⟩ := rem_at cut n3 hb3.2.2
    have hz3 : ((n3 : Int) == 0) = false := by simp; omega
    have hnz3 : (0 : Int) < (n3 : Int) := by have := hb3.2.2; omega
    have hpc3 : (p3 : Int) ≤ (cap3 : Int) := by have := hb3.1; omega
    have HPN3 := Lib.hid hpn3
    clear hpn3 hp3
    have hb4 : (n4 : Int) ≤ (cap4 : Int) ∧ n4 ≤ 100000 ∧ 0 < n4 := by
      have h1 := HQ4.out.1
      have h2 := HLE4.out
      have h3 := HL4.out
      omega
    obtain ⟨p4, hp4, hr4, hpn4⟩ := rem_at cut n4 hb4.2.2
    have hz4 : ((n4 : Int) == 0) = false := by simp; omega
    have hnz4 : (0 : Int) < (n4 : Int) := by have := hb4.2.2; omega
    have hpc4 : (p4 : Int) ≤ (cap4 : Int) := by have := hb4.1; omega
    have HPN4 := Lib.hid hpn4
    clear hpn4 hp4
    have hwc : wrap64 (cut : Int) = (cut : Int) := Go.IntWalk.wrap64_in _ (by have := HLN.out.2.2; omega)
    have hW24 : Below w2.heap.size w2 w4 := on HW3.out HW4.out
    have hW14 : Below w1.heap.size w1 w4 := on HW2.out hW24
    have HT1 := Lib.hid (takeuint_any A1 p1 cap1 (r1.take p1) (take_len HPN1.out HL1.out) w4 (rd_take (HX1.out.to hW14) p1) (take_le HPN1.out HL1.out hb1.2.1))
    rw [HP1.out p1 (by have := HPN1.out; have := HL1.out; omega)] at HT1
    have HT2 := Lib.hid (takeint_any A2 p2 cap2 (r2.take p2) (take_len HPN2.out HL2.out) w4 (rd_take (HX2.out.to hW24) p2) (take_le HPN2.out HL2.out hb2.2.1))
    rw [HP2.out p2 (by have := HPN2.out; have := HL2.out; omega)] at HT2
    have HE4 := Lib.hid (show Below w4.heap.size w4 w4.drew from (Below.refl _ _).drew)
    have HE5 := Lib.hid (show Below w4.heap.size w4 w4.drew.drew from (Below.refl _ _).drew.drew)
    have HT3 := Lib.hid (taketext_any A3 p3 cap3 (r3.take p3) (take_len HPN3.out HL3.out) (by omega) (s.size : Int) (by omega) (by have := HLN.out.1; omega) w4.drew (rd_take ((HX3.out.to HW4.out).to HE4.out) p3) (take_le HPN3.out HL3.out hb3.2.1))
    rw [show (s.size : Int) = ((s.data.toList.length : Nat) : Int) from size_list s, HP3.out p3 (by have := HPN3.out; have := HL3.out; omega)] at HT3
    have HT4 := Lib.hid (takelist_any A4 p4 cap4 (r4.take p4) (take_len HPN4.out HL4.out) (by omega) (n : Int) (by omega) (by have := HLN.out.2.1; omega) w4.drew.drew (rd_take (HX4.out.to HE5.out) p4) (take_le HPN4.out HL4.out hb4.2.1))
    rw [show (n : Int) = (l.length : Int) from by rw [HN.out], HP4.out p4 (by have := HPN4.out; have := HL4.out; omega), ← HN.out] at HT4
    rw [← show (s.size : Int) = ((s.data.toList.length : Nat) : Int) from size_list s] at HT3
    clear hW24 hW14 hb1 hb2 hb3 hb4
    simp only at HT1 HT2 HT3
    have HF4 := Lib.hid (HB4.out.drew)
    have HF5 := Lib.hid (HB4.out.drew.drew)
    go_wp2_with fail
    refine HT1.out.mono ?_
    rintro e w' ⟨rfl, rfl⟩
    go_wp2_with fail
    refine HT2.out.mono ?_
    rintro e w' ⟨rfl, rfl⟩
    go_upto_region 8 with fail
    go_region_held (fun w' => w'.cell? ⟨w.heap.size, 0, none⟩ = some (.int .u64 (u : Int)) ∧ w'.cell? ⟨w.heap.size, 1, none⟩ = some (.int .i64 z) ∧ w'.cell? ⟨w.heap.size, 2, none⟩ = some (.string s) ∧ w'.cell? ⟨w.heap.size, 3, none⟩ = some (.slice A n cap)) (first | exact HK.out _ HF4.out | exact HK.out _ HF5.out) (first
      | (go_at_call 21; refine HT3.out.mono ?_; rintro e w' ⟨rfl, rfl⟩))
    go_upto_region 9 with fail
    go_region_held (fun w' => w'.cell? ⟨w.heap.size, 0, none⟩ = some (.int .u64 (u : Int)) ∧ w'.cell? ⟨w.heap.size, 1, none⟩ = some (.int .i64 z) ∧ w'.cell? ⟨w.heap.size, 2, none⟩ = some (.string s) ∧ w'.cell? ⟨w.heap.size, 3, none⟩ = some (.slice A n cap)) (first | exact HK.out _ HF5.out | exact HK.out _ HB5.out) (first
      | (go_at_call 25; refine HT4.out.mono ?_; rintro e w5 ⟨A5, _, cap5, rfl, rfl, hown5, hb5⟩; have HB5 := Lib.hid (on HF5.out hb5); clear hown5 hb5; simp only [List.length_nil]))
    all_goals
      go_wp2_with fail
      refine (awake_any _).mono ?_
      rintro e w6 ⟨rfl, hb6⟩
      go_wp2
      go_ret
      exact ⟨rfl, HB0.out.trans ((on HB5.out hb6).mono (Nat.le_of_lt HSZ.out))⟩
  · have HS := Lib.hid (fun w => small_no none 0 0 s A n cap w (by omega))
    clear h hn
    go_enter Try.func10, Try.ntmps10
    go_wp2_with fail
    refine (HS.out _).mono ?_
    rintro e w0 ⟨rfl, hw0⟩
    have hb0 : Below w.heap.size w w0 := by rw [← hw0]; exact (Below.refl _ _).alloc (Nat.le_refl _) _
    clear hw0 HS
    go_wp2_with fail
    refine (awake_any _).mono ?_
    rintro e w2 ⟨rfl, hb2⟩
    go_wp2
    go_ret
    exact ⟨rfl, on hb0 hb2⟩

theorem short_walk_int (u z : Int) (s : ByteArray) (A : Option Addr) (n cap : Nat) (l : List Int) (cut : Int) (w : World)
    (hv : ((0 ≤ u ∧ u ≤ 18446744073709551615) ∧ (-9223372036854775808 ≤ z ∧ z ≤ 9223372036854775807)) ∧ IntsIn w A n cap l) (hc : 0 ≤ cut ∧ cut ≤ 65535) :
    Calls Try.prog 10 #[.agg #[.int .u64 u, .int .i64 z, .string s, .slice A n cap], .int .u16 cut] w fun e w' => e = .returned (.bool true) ∧ Below w.heap.size w w' := by
  obtain ⟨a, rfl⟩ := Int.eq_ofNat_of_zero_le hv.1.1.1
  obtain ⟨c, rfl⟩ := Int.eq_ofNat_of_zero_le hc.1
  exact short_walk a z s A n cap l c w (by have := hv.1.1.2; omega) hv.1.2 hv.2 (by omega)
end Go.Proofs.Ytfpealokldbabaa
