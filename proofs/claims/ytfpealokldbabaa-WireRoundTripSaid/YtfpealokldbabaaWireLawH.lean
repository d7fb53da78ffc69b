/- The walk of the law WireRoundTrip. -/
import Derived.Test.YtfpealokldbabaaWireLawG
namespace Go.Proofs.Ytfpealokldbabaa
open Go.RowKit

/-- What four values in a row are read as, wherever they begin. -/
theorem rt_plain (bf af s : List UInt8) (u : Nat) (z : Int) (l : List Int) (hu : u < 18446744073709551616) (hz : -9223372036854775808 ≤ z ∧ z ≤ 9223372036854775807) (hs : s.length ≤ 5000) (hl : l.length ≤ 5000) (hi : I64 l) :
    ∃ i1 i2 i3 i4 : Nat, 1 ≤ i1 ∧ 1 ≤ i2 ∧ 1 ≤ i3 ∧ 1 ≤ i4 ∧ i1 ≤ 10 ∧ i2 ≤ 10 ∧ i3 ≤ 6000 ∧ i4 ≤ 60000 ∧
      (bf ++ Wp.varint u ++ Wp.putI z ++ Wp.putT s ++ Wp.putN l).length = bf.length + i1 + i2 + i3 + i4 ∧
      (bf ++ Wp.varint u).length = bf.length + i1 ∧ (bf ++ Wp.varint u ++ Wp.putI z).length = bf.length + i1 + i2 ∧ (bf ++ Wp.varint u ++ Wp.putI z ++ Wp.putT s).length = bf.length + i1 + i2 + i3 ∧
      (bf ++ Wp.varint u ++ Wp.putI z ++ Wp.putT s ++ Wp.putN l).take bf.length = bf ∧
      Wp.takeU ((bf ++ Wp.varint u ++ Wp.putI z ++ Wp.putT s ++ Wp.putN l ++ af).drop bf.length) = (u, i1, 0) ∧
      Wp.takeI ((bf ++ Wp.varint u ++ Wp.putI z ++ Wp.putT s ++ Wp.putN l ++ af).drop (bf.length + i1)) = (z, i2, 0) ∧
      Wp.takeT ((bf ++ Wp.varint u ++ Wp.putI z ++ Wp.putT s ++ Wp.putN l ++ af).drop (bf.length + i1 + i2)) (s.length : Int) = (s, i3, 0) ∧
      Wp.takeN ((bf ++ Wp.varint u ++ Wp.putI z ++ Wp.putT s ++ Wp.putN l ++ af).drop (bf.length + i1 + i2 + i3)) (l.length : Int) = (l, i4, 0) := by
  have v1 := Wp.varint_len u
  have v2 := Wp.varint_len (Wp.zz z)
  have v3 := Wp.varint_len s.length
  have v4 := Wp.varint_len l.length
  have v5 := flat_len l
  have e2 : (Wp.putI z).length = (Wp.varint (Wp.zz z)).length := rfl
  have e3 : (Wp.putT s).length = (Wp.varint s.length).length + s.length := by unfold Wp.putT; rw [List.length_append]
  have e4 : (Wp.putN l).length = (Wp.varint l.length).length + (l.flatMap Wp.putI).length := by unfold Wp.putN; rw [List.length_append]
  refine ⟨(Wp.varint u).length, (Wp.putI z).length, (Wp.putT s).length, (Wp.putN l).length, by omega, by omega, by omega, by omega, by omega, by omega, by omega, by omega, by simp only [List.length_append], by simp only [List.length_append], by simp only [List.length_append], by simp only [List.length_append], ?_, ?_, ?_, ?_, ?_⟩
  · simp only [List.append_assoc]; rw [List.take_left]
  · simp only [List.append_assoc]; rw [List.drop_left]; exact Wp.takeU_put u hu _
  · have : (bf ++ Wp.varint u).length = bf.length + (Wp.varint u).length := by rw [List.length_append]
    rw [← this, show bf ++ Wp.varint u ++ Wp.putI z ++ Wp.putT s ++ Wp.putN l ++ af = (bf ++ Wp.varint u) ++ (Wp.putI z ++ (Wp.putT s ++ (Wp.putN l ++ af))) by simp only [List.append_assoc], List.drop_left]
    exact Wp.takeI_put z hz.1 hz.2 _
  · have : (bf ++ Wp.varint u ++ Wp.putI z).length = bf.length + (Wp.varint u).length + (Wp.putI z).length := by simp only [List.length_append]
    rw [← this, show bf ++ Wp.varint u ++ Wp.putI z ++ Wp.putT s ++ Wp.putN l ++ af = (bf ++ Wp.varint u ++ Wp.putI z) ++ (Wp.putT s ++ (Wp.putN l ++ af)) by simp only [List.append_assoc], List.drop_left]
    exact Wp.takeT_put s (by omega) _
  · have : (bf ++ Wp.varint u ++ Wp.putI z ++ Wp.putT s).length = bf.length + (Wp.varint u).length + (Wp.putI z).length + (Wp.putT s).length := by simp only [List.length_append]
    rw [← this, show bf ++ Wp.varint u ++ Wp.putI z ++ Wp.putT s ++ Wp.putN l ++ af = (bf ++ Wp.varint u ++ Wp.putI z ++ Wp.putT s) ++ (Wp.putN l ++ af) by simp only [List.append_assoc], List.drop_left]
    exact Wp.takeN_put l (by omega) hi _

/-- A slice from q on. -/
theorem rd_from {w : World} {A : Option Addr} {cap q : Nat} {r : List UInt8} (h : Rd w A (bv r)) (hc : r.length ≤ cap) (hq : cap ≠ q) : Rd w (A.map fun x => x.add q) (bv (r.drop q)) := by
  have := h.drop q cap (by rw [bv_length]; exact hc)
  rw [if_neg hq] at this
  rw [bv_drop]
  exact this
theorem ba_back (s : ByteArray) : (⟨s.data.toList.toArray⟩ : ByteArray) = s := by cases s; simp
theorem from_len {r : List UInt8} {n : Nat} (q : Nat) (h : n = r.length) : n - q = (r.drop q).length := by rw [List.length_drop, h]

set_option maxRecDepth 100000 in
set_option maxHeartbeats 12800000 in
theorem roundtrip_walk (u : Nat) (z : Int) (s : ByteArray) (A : Option Addr) (n cap : Nat) (l : List Int) (Ab : Option Addr) (nb capb : Nat) (bf : List UInt8) (Aa : Option Addr) (na capa : Nat) (af : List UInt8) (w : World)
    (hu : u < 18446744073709551616) (hz : -9223372036854775808 ≤ z ∧ z ≤ 9223372036854775807) (h : IntsIn w A n cap l) (hb : BytesIn w Ab nb capb bf) (ha : BytesIn w Aa na capa af) :
    Calls Try.prog 8 #[.agg #[.int .u64 (u : Int), .int .i64 z, .string s, .slice A n cap], .slice Ab nb capb, .slice Aa na capa] w fun e w' => e = .returned (.bool true) ∧ Below w.heap.size w w' := by
  by_cases hn : nb ≤ 5000 ∧ s.size ≤ 5000 ∧ n ≤ 5000
  · have HS1 := Lib.hid (fun w => small_yes Ab nb capb s A n cap w hn.1 hn.2.1 hn.2.2)
    by_cases hn2 : na ≤ 5000
    · have HS2 := Lib.hid (fun w => small_yes Aa na capa ⟨#[]⟩ none 0 0 w hn2 (by decide) (by omega))
      obtain ⟨i1, i2, i3, i4, hi1, hi2, hi3, hi4, hm1, hm2, hm3, hm4, hL4, hL1, hL2, hL3, htk, hP1, hP2, hP3, hP4⟩ := rt_plain bf af s.data.toList u z l hu hz hn.2.1 (by rw [← h.len]; exact hn.2.2) h.i64
      rw [← hb.len] at hL4 hL1 hL2 hL3 htk hP1 hP2 hP3 hP4
      rw [← h.len] at hP4
      rw [← size_list s] at hP3
      have HP := Lib.hid (And.intro hP1 (And.intro hP2 (And.intro hP3 hP4)))
      have HL := Lib.hid (And.intro hL1 (And.intro hL2 (And.intro hL3 hL4)))
      have HTK := Lib.hid htk
      have HI := Lib.hid (And.intro (And.intro hi1 hm1) (And.intro (And.intro hi2 hm2) (And.intro (And.intro hi3 hm3) (And.intro hi4 hm4))))
      have HN := Lib.hid hn
      have HN2 := Lib.hid hn2
      have HU := Lib.hid (And.intro hu hz)
      have HA := Lib.hid ha
      have HBF := Lib.hid hb
      have HLI := Lib.hid h
      clear hP1 hP2 hP3 hP4 hL1 hL2 hL3 hL4 htk hi1 hi2 hi3 hi4 hm1 hm2 hm3 hm4 hn hn2 hu hz h ha hb
      go_enter Try.func8, Try.ntmps8
      go_wp2_with fail
      refine (HS1.out _).mono ?_
      rintro e w0 ⟨rfl, hw0⟩
      obtain ⟨c0, c1, c2, c3⟩ := box4 hw0
      have hb0 : Below w.heap.size w w0 := by rw [← hw0]; exact (Below.refl _ _).alloc (Nat.le_refl _) _
      have hsz : w.heap.size < w0.heap.size := by rw [← hw0]; simp
      have hto : ∀ w', Below w0.heap.size w0 w' → Below w.heap.size w w' := fun w' hb => hb0.trans (hb.mono (Nat.le_of_lt hsz))
      have HTO := Lib.hid hto
      have HK := Lib.hid (fun (w' : World) (hb : Below w0.heap.size w0 w') => (show w'.cell? ⟨w.heap.size, 0, none⟩ = some (.int .u64 (u : Int)) ∧ w'.cell? ⟨w.heap.size, 1, none⟩ = some (.int .i64 z) ∧ w'.cell? ⟨w.heap.size, 2, none⟩ = some (.string s) ∧ w'.cell? ⟨w.heap.size, 3, none⟩ = some (.slice A n cap) from
        ⟨(hb.cell hsz).trans c0, (hb.cell hsz).trans c1, (hb.cell hsz).trans c2, (hb.cell hsz).trans c3⟩))
      have HBX : Hid (∀ w', Below w0.heap.size w0 w' → Rd w' Ab (bv bf)) := fun w' hb => HBF.out.reads.to (hto w' hb)
      have HAX : Hid (∀ w', Below w0.heap.size w0 w' → Rd w' Aa (bv af)) := fun w' hb => HA.out.reads.to (hto w' hb)
      have HLX : Hid (∀ w', Below w0.heap.size w0 w' → Rd w' A (iv l)) := fun w' hb => HLI.out.reads.to (hto w' hb)
      clear hw0 HS1 hb0 hsz hto c0 c1 c2 c3
      go_wp2_with fail
      refine (HS2.out _).mono ?_
      rintro e w' ⟨rfl, rfl⟩
      clear HS2
      go_upto_region 4 with fail
      have HD := Lib.hid (show Below w0.heap.size w0 w0.drew from (Below.refl _ _).drew)
      have hbl : bf.length ≤ 5000 := by rw [← HBF.out.len]; exact HN.out.1
      have hll := HL.out
      have hii := HI.out
      have H1 := Lib.hid (fun w' (hb : Below w0.heap.size w0 w') => putuint_any Ab nb capb bf HBF.out.len u w' (HBX.out w' hb) HU.out.1 (by omega))
      have H2 := Lib.hid (fun A1 n1 cap1 w' (hn : n1 = (bf ++ Wp.varint u).length) (hr : Rd w' A1 (bv (bf ++ Wp.varint u))) => putint_any A1 n1 cap1 (bf ++ Wp.varint u) hn z w' hr HU.out.2.1 HU.out.2.2 (by have := HN.out.1; omega))
      have H3 := Lib.hid (fun A1 n1 cap1 w' (hn : n1 = (bf ++ Wp.varint u ++ Wp.putI z).length) (hr : Rd w' A1 (bv (bf ++ Wp.varint u ++ Wp.putI z))) => puttext_any A1 n1 cap1 (bf ++ Wp.varint u ++ Wp.putI z) hn s w' hr (by have := HN.out.1; omega) (by have := HN.out.2.1; omega))
      have H4 := Lib.hid (fun A1 n1 cap1 w' (hn : n1 = (bf ++ Wp.varint u ++ Wp.putI z ++ Wp.putT s.data.toList).length) (hr : Rd w' A1 (bv (bf ++ Wp.varint u ++ Wp.putI z ++ Wp.putT s.data.toList))) (hb : Below w0.heap.size w0 w') => putlist_any A1 n1 cap1 (bf ++ Wp.varint u ++ Wp.putI z ++ Wp.putT s.data.toList) hn A n cap l HLI.out.len w' hr (HLX.out w' hb) HLI.out.i64 (by have := HN.out.1; omega) (by have := HN.out.2.2; have := HLI.out.len; omega))
      clear hbl hll hii
      generalize bf ++ Wp.varint u ++ Wp.putI z ++ Wp.putT s.data.toList ++ Wp.putN l = r4 at HP HL HTK H4
      generalize bf ++ Wp.varint u ++ Wp.putI z ++ Wp.putT s.data.toList = r3 at HL H3 H4
      generalize bf ++ Wp.varint u ++ Wp.putI z = r2 at HL H2 H3
      generalize bf ++ Wp.varint u = r1 at HL H1 H2
      go_region_held (fun w' => w'.cell? ⟨w.heap.size, 0, none⟩ = some (.int .u64 (u : Int)) ∧ w'.cell? ⟨w.heap.size, 1, none⟩ = some (.int .i64 z) ∧ w'.cell? ⟨w.heap.size, 2, none⟩ = some (.string s) ∧ w'.cell? ⟨w.heap.size, 3, none⟩ = some (.slice A n cap)) (first | exact HK.out _ HD.out | exact HK.out _ HB1.out | exact HK.out _ HB2.out | exact HK.out _ HB3.out | exact HK.out _ HB4.out) (first
        | (go_at_call 15; refine (H1.out w0.drew HD.out).mono ?_; rintro e w1 ⟨A1, n1, cap1, rfl, hl1, hown1, hb1⟩; have HB1 := Lib.hid (on HD.out hb1); have HX1 := Lib.hid (own_rd hown1); have HL1 := Lib.hid hl1; clear hown1 hb1 hl1)
        | (go_at_call 19; refine (H2.out A1 n1 cap1 w1 HL1.out HX1.out).mono ?_; rintro e w2 ⟨A2, n2, cap2, rfl, hl2, hown2, hb2⟩; have HB2 := Lib.hid (on HB1.out hb2); have HX2 := Lib.hid (own_rd hown2); have HL2 := Lib.hid hl2; clear hown2 hb2 hl2)
        | (go_at_call 23; refine (H3.out A2 n2 cap2 w2 HL2.out HX2.out).mono ?_; rintro e w3 ⟨A3, n3, cap3, rfl, hl3, hown3, hb3⟩; have HB3 := Lib.hid (on HB2.out hb3); have HX3 := Lib.hid (own_rd hown3); have HL3 := Lib.hid hl3; clear hown3 hb3 hl3)
        | (go_at_call 27; refine (H4.out A3 n3 cap3 w3 HL3.out HX3.out HB3.out).mono ?_; rintro e w4 ⟨A4, n4, cap4, rfl, hl4, hown4, hb4⟩; have HB4 := Lib.hid (on HB3.out hb4); have HX4 := Lib.hid (own_rd hown4); have HQ4 := Lib.hid (own_cap hown4); have HO4 := Lib.hid hown4; have HL4 := Lib.hid hl4; clear hown4 hb4 hl4))
      clear H1 H2 H3 H4 HX1 HX2 HX3 HL1 HL2 HL3 HB1 HB2 HB3 HD HU
      rename_i hHeld
      clear hHeld
      have HD := Lib.hid (show Below w0.heap.size w0 w4.drew from HB4.out.drew)
      have hnn : nb ≤ n4 ∧ n4 ≤ cap4 := by
        have h1 := HL4.out
        have h2 := HL.out.2.2.2
        have h3 := HQ4.out.1
        omega
      have hlt : ¬ ((n4 : Int) < (nb : Int)) := by omega
      have hlc : (nb : Int) ≤ (cap4 : Int) := by omega
      have hcvA := conv_b (w := w4.drew) A4 nb cap4 bf (by
        have := (HX4.out.to ((Below.refl _ w4).drew)).take nb
        rw [← bv_take, HTK.out] at this
        exact this) HBF.out.len
      have hcvB := conv_b (w := w4.drew) Ab nb capb bf (HBX.out _ HD.out) HBF.out.len
      clear hnn
      go_upto_region 5 with fail
      go_cut [62] from 50 to 61 (fun s wx => s = .bool false ∧ wx = w4.drew)
      case first =>
        go_region_held (fun _ => True) (exact True.intro) (fail)
        all_goals (go_wp2_with fail; go_meet; exact ⟨rfl, rfl⟩)
      case rest =>
      obtain ⟨rfl, rfl⟩ := hcut
      clear hcvA hcvB hlt hlc
      obtain ⟨i0, hi, hz0, hz1, hz2⟩ := info_parts info_u8
      obtain ⟨w5, hw5⟩ : ∃ w5, w5 = w4.drew := ⟨_, rfl⟩
      have HX5 := Lib.hid (show Rd w5 A4 (bv r4) by rw [hw5]; exact HX4.out.to ((Below.refl _ w4).drew))
      have HC4 := Lib.hid (fun hA : A4 = none => own_none HO4.out hA)
      rw [← hw5] at HD ⊢
      clear hw5 HX4 HO4 HB4
      have hn4 : n4 ≤ 100000 := by
        have h1 := HL4.out
        have h2 := HL.out.2.2.2
        have h3 := HI.out
        have h4 := HN.out.1
        omega
      have hna := HN2.out
      have hown0 := Lib.hid (World.ownsRow_lit (base := w5.heap.size) (e := 5) (size := 1) w5 #[] 0 (Nat.le_refl _) (by unfold maxLen; omega) rfl)
      obtain ⟨n6, hn6⟩ : ∃ n6, n6 = n4 + na := ⟨_, rfl⟩
      have HN6 := Lib.hid hn6
      clear hn6
      go_upto_region 8 with (first
        | (at_builtin; refine wpList_appN rfl _ _ 22 rfl w5.heap.size 5 i0 (.int .u8 0) 1 Try.underlying22 hi hz0 hz1 hz2 rfl _ 0 [] rfl hown0.out A4 n4 cap4 (bv r4) rfl (by rw [bv_length]; exact HL4.out.symm) HC4.out (HX5.out.to (below_new w5 _)) (bv_one r4) (by unfold maxLen; omega) (by omega) (by simp) n4 (Nat.zero_add n4).symm ?_; intro A5 cap5 wx5 hcap5 hown5 hb5; have HO5 := Lib.hid hown5; have HB5 := Lib.hid hb5; have HS5 := Lib.hid hb5.size; clear hown5 hb5 hcap5)
        | (at_builtin; refine wpList_appN rfl _ _ 22 rfl w5.heap.size 5 i0 (.int .u8 0) 1 Try.underlying22 hi hz0 hz1 hz2 rfl _ n4 _ rfl HO5.out Aa na capa (bv af) rfl (by rw [bv_length]; exact HA.out.len.symm) HA.out.nil (HAX.out _ (on HD.out ((below_new w5 _).trans HB5.out))) (bv_one af) (by unfold maxLen; omega) (by omega) (by have := HS5.out; simp at this; omega) n6 HN6.out ?_; intro A6 cap6 w6 hcap6 hown6 hb6; have HO6 := Lib.hid hown6; have HB6 := Lib.hid (on HD.out (((below_new w5 _).trans HB5.out).trans hb6)); clear hown6 hb6))
      have HR6 := Lib.hid (show Rd w6 A6 (bv (r4 ++ af)) by
        have := own_rd HO6.out
        rwa [List.nil_append, ← bv_append] at this)
      have HL6 := Lib.hid (show n6 = (r4 ++ af).length by rw [List.length_append, HN6.out, HL4.out, HA.out.len])
      have HC6 := Lib.hid hcap6
      have hn6 : n4 ≤ n6 ∧ n6 ≤ 200000 := by have := HN6.out; omega
      clear HO6 HO5 HB5 HS5 hown0 HX5 HC4 hcap6 hi hz0 hz1 hz2
      obtain ⟨q1, hq1⟩ : ∃ q1, q1 = nb + i1 := ⟨_, rfl⟩
      obtain ⟨q2, hq2⟩ : ∃ q2, q2 = q1 + i2 := ⟨_, rfl⟩
      obtain ⟨q3, hq3⟩ : ∃ q3, q3 = q2 + i3 := ⟨_, rfl⟩
      have hq4 : n4 = q3 + i4 := by
        have h1 := HL4.out
        have h2 := HL.out.2.2.2
        omega
      have hp := HP.out
      rw [← hq1, ← hq2, ← hq3] at hp
      have hii := HI.out
      have hrl : (r4 ++ af).length ≤ 1000000000000 := by have := HL6.out; omega
      have hrc : (r4 ++ af).length ≤ cap6 := by have := HL6.out; have := HC6.out; omega
      have hdl : ∀ q, ((r4 ++ af).drop q).length ≤ 1000000000000 := fun q => by rw [List.length_drop]; omega
      have hx0 : ¬ cap6 = nb := by have := HC6.out; omega
      have hx1 : ¬ cap6 = q1 := by have := HC6.out; omega
      have hx2 : ¬ cap6 = q2 := by have := HC6.out; omega
      have hx3 : ¬ cap6 = q3 := by have := HC6.out; omega
      have hsz2 := HN.out
      have HT1 := Lib.hid (takeuint_any (A6.map fun x => x.add nb) (n6 - nb) (cap6 - nb) ((r4 ++ af).drop nb) (from_len nb HL6.out) w6 (rd_from HR6.out hrc hx0) (hdl _))
      rw [hp.1] at HT1
      have HT2 := Lib.hid (takeint_any (A6.map fun x => x.add q1) (n6 - q1) (cap6 - q1) ((r4 ++ af).drop q1) (from_len q1 HL6.out) w6 (rd_from HR6.out hrc hx1) (hdl _))
      rw [hp.2.1] at HT2
      have HE6 := Lib.hid (show Below w6.heap.size w6 w6.drew from (Below.refl _ _).drew)
      have HE7 := Lib.hid (show Below w6.heap.size w6 w6.drew.drew from (Below.refl _ _).drew.drew)
      have HT3 := Lib.hid (taketext_any (A6.map fun x => x.add q2) (n6 - q2) (cap6 - q2) ((r4 ++ af).drop q2) (from_len q2 HL6.out) (by have := HC6.out; omega) (s.size : Int) (by omega) (by omega) w6.drew (rd_from (HR6.out.to HE6.out) hrc hx2) (hdl _))
      rw [hp.2.2.1] at HT3
      simp only at HT1 HT2 HT3
      rw [ba_back s] at HT3
      have HT4 := Lib.hid (takelist_any (A6.map fun x => x.add q3) (n6 - q3) (cap6 - q3) ((r4 ++ af).drop q3) (from_len q3 HL6.out) (by have := HC6.out; omega) (n : Int) (by omega) (by omega) w6.drew.drew (rd_from (HR6.out.to HE7.out) hrc hx3) (hdl _))
      rw [hp.2.2.2] at HT4
      have hlow : (nb : Int) ≤ (n6 : Int) ∧ (q1 : Int) ≤ (n6 : Int) ∧ (q2 : Int) ≤ (n6 : Int) ∧ (q3 : Int) ≤ (n6 : Int) := by omega
      obtain ⟨hlow0, hlow1, hlow2, hlow3⟩ := hlow
      have hcc : (n6 : Int) ≤ (cap6 : Int) := by have := HC6.out; omega
      have hs1 : (nb : Int) + (i1 : Int) = (q1 : Int) := by omega
      have hs2 : (q1 : Int) + (i2 : Int) = (q2 : Int) := by omega
      have hs3 : (q2 : Int) + (i3 : Int) = (q3 : Int) := by omega
      have hm : (n4 : Int) - (q3 : Int) = (i4 : Int) := by omega
      have ho1 : ¬ ((i1 : Int) < 1) := by omega
      have ho2 : ¬ ((i2 : Int) < 1) := by omega
      have ho3 : ¬ ((i3 : Int) < 1) := by omega
      have hg1 : ¬ ((n4 : Int) - (nb : Int) < (i1 : Int)) := by omega
      have hg2 : ¬ ((n4 : Int) - (q1 : Int) < (i2 : Int)) := by omega
      have hg3 : ¬ ((n4 : Int) - (q2 : Int) < (i3 : Int)) := by omega
      obtain ⟨k0, k1, k2, k3⟩ := HK.out w6 HB6.out
      have HF6 := Lib.hid (HB6.out.drew)
      have HF7 := Lib.hid (HB6.out.drew.drew)
      clear hq1 hq2 hq3 hq4 hp hii hrl hrc hdl hsz2 hn4 hna
      go_wp2_with fail
      refine HT1.out.mono ?_
      rintro e w' ⟨rfl, rfl⟩
      go_wp2_with fail
      refine HT2.out.mono ?_
      rintro e w' ⟨rfl, rfl⟩
      go_upto_region 16 with fail
      go_region_held (fun w' => w'.cell? ⟨w.heap.size, 0, none⟩ = some (.int .u64 (u : Int)) ∧ w'.cell? ⟨w.heap.size, 1, none⟩ = some (.int .i64 z) ∧ w'.cell? ⟨w.heap.size, 2, none⟩ = some (.string s) ∧ w'.cell? ⟨w.heap.size, 3, none⟩ = some (.slice A n cap)) (first | exact HK.out _ HF6.out | exact HK.out _ HF7.out) (first
        | (go_at_call 21; refine HT3.out.mono ?_; rintro e w' ⟨rfl, rfl⟩))
      clear k0 k1 k2 k3
      obtain ⟨k0, k1, k2, k3⟩ := HK.out w6.drew HF6.out
      go_upto_region 20 with fail
      go_region_held (fun w' => w'.cell? ⟨w.heap.size, 0, none⟩ = some (.int .u64 (u : Int)) ∧ w'.cell? ⟨w.heap.size, 1, none⟩ = some (.int .i64 z) ∧ w'.cell? ⟨w.heap.size, 2, none⟩ = some (.string s) ∧ w'.cell? ⟨w.heap.size, 3, none⟩ = some (.slice A n cap)) (first | exact HK.out _ HF7.out | exact HK.out _ HB7.out) (first
        | (go_at_call 25; refine HT4.out.mono ?_; rintro e w7 ⟨A7, _, cap7, rfl, rfl, hown7, hb7⟩; have HB7 := Lib.hid (on HF7.out hb7); have HO7 := Lib.hid (own_rd hown7); clear hown7 hb7))
      clear k0 k1 k2 k3
      obtain ⟨k0, k1, k2, k3⟩ := HK.out w7 HB7.out
      have HSM := Lib.hid (same_any A7 _ cap7 l rfl A n cap l HLI.out.len w7 HO7.out (HLX.out w7 HB7.out) (by have := HLI.out.len; have := HN.out; omega))
      go_wp2_with fail
      refine HSM.out.mono ?_
      rintro e w8 ⟨rfl, hb8⟩
      go_wp2_with fail
      refine (awake_any _).mono ?_
      rintro e w9 ⟨rfl, hb9⟩
      go_wp2
      go_ret
      exact ⟨rfl, HTO.out _ (on (on HB7.out hb8) hb9)⟩
    · have HS2 := Lib.hid (fun w => small_no Aa na capa ⟨#[]⟩ none 0 0 w (by omega))
      clear h hn ha hb
      go_enter Try.func8, Try.ntmps8
      go_wp2_with fail
      refine (HS1.out _).mono ?_
      rintro e w0 ⟨rfl, hw0⟩
      have hb0 : Below w.heap.size w w0 := by rw [← hw0]; exact (Below.refl _ _).alloc (Nat.le_refl _) _
      clear hw0 HS1
      go_wp2_with fail
      refine (HS2.out _).mono ?_
      rintro e w' ⟨rfl, rfl⟩
      go_wp2_with fail
      refine (awake_any _).mono ?_
      rintro e w2 ⟨rfl, hb2⟩
      go_wp2
      go_ret
      exact ⟨rfl, on hb0 hb2⟩
  · have HS1 := Lib.hid (fun w => small_no Ab nb capb s A n cap w (by omega))
    clear h hn ha hb
    go_enter Try.func8, Try.ntmps8
    go_wp2_with fail
    refine (HS1.out _).mono ?_
    rintro e w0 ⟨rfl, hw0⟩
    have hb0 : Below w.heap.size w w0 := by rw [← hw0]; exact (Below.refl _ _).alloc (Nat.le_refl _) _
    clear hw0 HS1
    go_wp2_with fail
    refine (awake_any _).mono ?_
    rintro e w2 ⟨rfl, hb2⟩
    go_wp2
    go_ret
    exact ⟨rfl, on hb0 hb2⟩

theorem roundtrip_walk_int (u z : Int) (s : ByteArray) (A : Option Addr) (n cap : Nat) (l : List Int) (Ab : Option Addr) (nb capb : Nat) (bf : List UInt8) (Aa : Option Addr) (na capa : Nat) (af : List UInt8) (w : World)
    (hv : ((0 ≤ u ∧ u ≤ 18446744073709551615) ∧ (-9223372036854775808 ≤ z ∧ z ≤ 9223372036854775807)) ∧ IntsIn w A n cap l) (hb : BytesIn w Ab nb capb bf) (ha : BytesIn w Aa na capa af) :
    Calls Try.prog 8 #[.agg #[.int .u64 u, .int .i64 z, .string s, .slice A n cap], .slice Ab nb capb, .slice Aa na capa] w fun e w' => e = .returned (.bool true) ∧ Below w.heap.size w w' := by
  obtain ⟨a, rfl⟩ := Int.eq_ofNat_of_zero_le hv.1.1.1
  exact roundtrip_walk a z s A n cap l Ab nb capb bf Aa na capa af w (by have := hv.1.1.2; omega) hv.1.2 hv.2 hb ha
end Go.Proofs.Ytfpealokldbabaa
