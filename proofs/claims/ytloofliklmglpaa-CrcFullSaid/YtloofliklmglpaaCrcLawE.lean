/- The walk of the law CrcFull. -/
import Derived.Test.YtloofliklmglpaaCrcClaim
import Derived.Laws.OwnMore
namespace Go.Proofs.Ytloofliklmglpaa
open Go.RowKit

theorem made0 (n : Nat) (h : n ≤ 1000000) : ∃ C : Array Value, C.toList = bv (List.replicate n 0) ∧ C.size = n ∧ ∀ W : World, (Instr.makeSlice 22 (.int .i64 (n : Int)) (.int .i64 (n : Int))).run Try.prog W = .ok (.slice (some ⟨W.heap.size, 0, none⟩) n n) (W.alloc (.cells C 5)) := by
  obtain ⟨i0, hi, hz0, hz1, hz2⟩ := info_parts info_u8
  refine ⟨madeCells #[Value.int .u8 0] n, by rw [toList_madeCells_one]; simp [bv], size_madeCells _ _, fun W => ?_⟩
  have hr := run_make (P := Try.prog) W 22 5 i0 (.int .u8 0) Try.underlying22 hi hz0 .i64 .i64 (n : Int) (n : Int) (by omega) (by omega) (by rw [hz2]; omega) (by omega)
  rw [Int.toNat_natCast, hz1, Nat.mul_one] at hr
  exact hr
theorem bv_set (l : List UInt8) (i : Nat) (x : UInt8) : (bv l).set i (.int .u8 (x.toNat : Int)) = bv (l.set i x) := by simp [bv, List.map_set]
namespace Cr
theorem frame_len0 (c : List UInt8) : (frame c).length = (Wp.varint c.length).length + c.length + 4 := by unfold frame; simp only [List.length_append, four_length]
theorem opn_big (n : Nat) (h1 : 65536 < n) (h2 : n < 2097152) (r : List UInt8) : opn (Wp.varint n ++ r) = ([], 0, 8) := by
  have h := Wp.takeU_put n (by omega) r
  unfold opn
  rw [h]
  simp only
  rw [if_pos trivial, if_pos h1]
end Cr

set_option maxRecDepth 100000 in
set_option maxHeartbeats 6400000 in
theorem full_walk (n c : Nat) (more : Int) (w : World) (hm : (65536 : Int) + more = (n : Int)) (h1 : -100 ≤ more) (h2 : more ≤ 100) (hc : c < 256) :
    Calls Try.prog 6 #[.int .i64 more, .int .u8 (c : Int)] w fun e w' => e = .returned (.bool true) ∧ Below w.heap.size w w' := by
  obtain ⟨i0, hi, hz0, hz1, hz2⟩ := info_parts info_u8
  have hnl : n ≤ 65636 := by omega
  obtain ⟨C, hCl, hCs, hmk⟩ := made0 n (by omega)
  obtain ⟨x, hx⟩ : ∃ x : UInt8, (x.toNat : Int) = (c : Int) := ⟨UInt8.ofNat c, by rw [UInt8.toNat_ofNat']; omega⟩
  have HX := Lib.hid hx
  have hm1 : ¬ more < -100 := by omega
  have hm2 : ¬ (100 : Int) < more := by omega
  have hown0 := Lib.hid (show (w.alloc (.cells C 5)).ownsRow w.heap.size 5 1 (.slice (some ⟨w.heap.size, 0, none⟩) n n) n (bv (List.replicate n 0)) by
    have := World.ownsRow_lit (base := w.heap.size) (e := 5) (size := 1) w C n (Nat.le_refl _) (by unfold maxLen; omega) (by rw [hCs, Nat.mul_one])
    rwa [hCl] at this)
  have HM := Lib.hid (show 65436 ≤ n ∧ (0 < more ↔ 65536 < n) by omega)
  clear hCl hCs hx
  go_enter Try.func6, Try.ntmps6
  go_wp2_with fail
  go_loopw [6] (fun i wr => ∃ (j : Nat) (l : List UInt8), j ≤ n + 97 ∧ i = .int .i64 (j : Int) ∧ Hid (n = l.length) ∧ wr.ownsRow w.heap.size 5 1 (.slice (some ⟨w.heap.size, 0, none⟩) n n) n (bv l) ∧ Below w.heap.size w wr) (fun i _ => n + 97 - (intOf i).toNat)
  case atStart => exact ⟨0, List.replicate n 0, by omega, rfl, (by simp : n = (List.replicate n (0 : UInt8)).length), hown0.out, below_new w _⟩
  case round =>
    obtain ⟨j, l, hj, rfl, HL, ho, hb⟩ := hrel
    have HO := Lib.hid ho
    have HB := Lib.hid hb
    clear ho hb
    by_cases hlt : j < n
    · have hji : (j : Int) < (n : Int) := by omega
      obtain ⟨y, hy⟩ : ∃ y, l[j]? = some y := ⟨_, List.getElem?_eq_getElem (by rw [← HL.out]; exact hlt)⟩
      have hcell : wr.cell? ⟨w.heap.size, j, none⟩ = some (.int .u8 (y.toNat : Int)) := by
        obtain ⟨b, o, hA, _, hc2⟩ := own_rd HO.out j (.int .u8 (y.toNat : Int)) (by simp [bv, hy])
        cases hA
        simpa using hc2
      have hfz : wr.frozen? ⟨w.heap.size, j, none⟩ = false := World.ownsRow.frozenAt HO.out j
      have hst := (HO.out.stored j (.int .u8 (x.toNat : Int))).1
      rw [bv_set, HX.out] at hst
      have HST := Lib.hid hst
      have HB2 := Lib.hid (HB.out.setCell (p := ⟨w.heap.size, j, none⟩) (Nat.le_refl _) (.int .u8 (c : Int)))
      have HL2 : Hid (n = (l.set j x).length) := by
        show _ = _
        rw [List.length_set]
        exact HL.out
      clear hst hy
      go_wp2
      go_roundw
      case rel => exact ⟨j + 97, l.set j x, by omega, by go_num, HL2, HST.out, HB2.out⟩
      case measure => simp [intOf]; omega
    · have hji : ¬ (j : Int) < (n : Int) := by omega
      have hll : l.length ≤ 65636 := by rw [← HL.out]; exact hnl
      have HF0 := frame_any (some ⟨w.heap.size, 0, none⟩) n n l HL.out (fun h => by cases h) wr (own_rd HO.out) (by omega)
      have HBL := Lib.hid (show (bv l).length = n by rw [bv_length]; exact HL.out.symm)
      have HC := Lib.hid (fun w' => claim_any n (by have := HM.out.1; omega) (by omega) w')
      have HVL := Lib.hid (show (Wp.varint n).length = 3 by rw [varint3 n (by have := HM.out.1; omega) (by omega)]; rfl)
      by_cases hbig : 65536 < n
      · have hmo : 0 < more := HM.out.2.2 hbig
        have hfr : Cr.fr l = ([], 8) := by unfold Cr.fr; rw [if_pos (by rw [← HL.out]; exact hbig)]
        rw [hfr] at HF0
        have HF := Lib.hid HF0
        have HOP := Lib.hid (fun A1 n1 cap1 w' (hn1 : n1 = (Wp.varint n ++ l).length) (hcc : n1 ≤ cap1) (hr : Rd w' A1 (bv (Wp.varint n ++ l))) => open_any A1 n1 cap1 (Wp.varint n ++ l) hn1 hcc w' hr (by rw [List.length_append, HVL.out]; omega))
        rw [Cr.opn_big n hbig (by omega) l] at HOP
        obtain ⟨nm, hnm⟩ : ∃ nm, nm = 3 + n := ⟨_, rfl⟩
        have HNM := Lib.hid hnm
        clear HF0 hfr hnm hlt hmk
        go_wp2_with fail
        refine HF.out.mono ?_
        rintro e w1 ⟨A1, n1, cap1, rfl, hn1, hown1, hb1⟩
        have hn1' : n1 = 0 := hn1
        subst hn1'
        have HO1 := Lib.hid (own_kept HO.out hb1)
        have HB1 := Lib.hid (on HB.out hb1)
        clear hown1 hb1 hn1
        simp only
        go_wp2_with fail
        refine (HC.out _).mono ?_
        rintro e w2 ⟨A2, n2, cap2, rfl, hn2, hown2, hb2⟩
        have hn2' : n2 = 3 := by rw [hn2]; exact HVL.out
        subst hn2'
        have HO2 := Lib.hid (own_base hown2 HB1.out.size)
        have HR1 := Lib.hid ((own_rd HO1.out).to hb2)
        have HB2 := Lib.hid (on HB1.out hb2)
        clear hown2 hb2 hn2
        go_wp2_with (at_builtin; refine wpList_appN rfl _ _ 22 rfl w.heap.size 5 i0 (.int .u8 0) 1 Try.underlying22 hi hz0 hz1 hz2 rfl _ 3 _ rfl HO2.out (some ⟨w.heap.size, 0, none⟩) n n (bv l) rfl HBL.out (fun h => by cases h) HR1.out (bv_one l) (by unfold maxLen; omega) (by omega) HB2.out.size nm HNM.out ?_; intro A3 cap3 w3 hcap3 hown3 hb3; have HO3 := Lib.hid hown3; have HB3 := Lib.hid (HB2.out.trans hb3); have HC3 := Lib.hid hcap3; clear hown3 hb3 hcap3)
        refine (HOP.out A3 nm cap3 w3 (by rw [List.length_append, HVL.out, HNM.out, HL.out]) HC3.out (by rw [bv_append]; exact own_rd HO3.out)).mono ?_
        rintro e w4 ⟨A4, n4, cap4, rfl, hn4, hown4, hb4⟩
        have hn4' : n4 = 0 := hn4
        subst hn4'
        have HB4 := Lib.hid (on HB3.out hb4)
        clear hown4 hb4 hn4
        simp only
        go_wp2_with fail
        refine (cawake_any _).mono ?_
        rintro e w5 ⟨rfl, hb5⟩
        go_wp2
        go_ret
        exact ⟨rfl, on HB4.out hb5⟩
      · have hmo : ¬ 0 < more := fun h => hbig (HM.out.2.1 h)
        have hfr : Cr.fr l = (Cr.frame l, 0) := by unfold Cr.fr; rw [if_neg (by rw [← HL.out]; exact hbig)]
        rw [hfr] at HF0
        have hop := Cr.opn_frame l [] (by rw [← HL.out]; omega)
        rw [List.append_nil] at hop
        have hfl : (Cr.frame l).length = 3 + n + 4 := by rw [Cr.frame_len0, ← HL.out, HVL.out]
        have HF := Lib.hid HF0
        have HOP := Lib.hid (fun A1 n1 cap1 w' (hn1 : n1 = (Cr.frame l).length) (hcc : n1 ≤ cap1) (hr : Rd w' A1 (bv (Cr.frame l))) => open_any A1 n1 cap1 (Cr.frame l) hn1 hcc w' hr (by omega))
        rw [hop] at HOP
        have HFL := Lib.hid hfl
        generalize Cr.frame l = f at HF HOP HFL
        clear HF0 hfr hop hfl hlt hmk
        go_wp2_with fail
        refine HF.out.mono ?_
        rintro e w1 ⟨A1, n1, cap1, rfl, hn1, hown1, hb1⟩
        have HN1 := Lib.hid (show n1 = f.length from hn1)
        have HX1 := Lib.hid (own_rd hown1)
        have HC1 := Lib.hid (own_cap hown1).1
        have HO1 := Lib.hid (own_kept HO.out hb1)
        have HB1 := Lib.hid (on HB.out hb1)
        clear hown1 hb1 hn1
        simp only
        go_wp2_with fail
        refine (HOP.out A1 n1 cap1 w1 HN1.out HC1.out HX1.out).mono ?_
        rintro e w2 ⟨A2, n2, cap2, rfl, hn2, hown2, hb2⟩
        have HN2 := Lib.hid (show n2 = l.length from hn2)
        have HX2 := Lib.hid (own_rd hown2)
        have HR1 := Lib.hid ((own_rd HO1.out).to hb2)
        have HB2 := Lib.hid (on HB1.out hb2)
        clear hown2 hb2 hn2
        simp only
        rw [← HN1.out]
        have hq : (3 : Int) + (n : Int) + 4 = (n1 : Int) := by have := HN1.out; have := HFL.out; omega
        go_wp2_with fail
        refine (HC.out _).mono ?_
        rintro e w3 ⟨A3, n3, cap3, rfl, hn3, hown3, hb3⟩
        have hn3' : n3 = 3 := by rw [hn3]; exact HVL.out
        subst hn3'
        have hcv1 := conv_b (w := w3) A2 n2 cap2 l (HX2.out.to hb3) HN2.out
        have hcv2 := conv_b (w := w3) (some ⟨w.heap.size, 0, none⟩) n n l (HR1.out.to hb3) HL.out
        have HB3 := Lib.hid (on HB2.out hb3)
        clear hown3 hb3 hn3
        go_wp2_with fail
        refine (cawake_any _).mono ?_
        rintro e w5 ⟨rfl, hb5⟩
        go_wp2
        go_ret
        exact ⟨rfl, on HB3.out hb5⟩

set_option maxRecDepth 100000 in
set_option maxHeartbeats 3200000 in
theorem full_walk_int (more c : Int) (w : World) (hc : 0 ≤ c ∧ c ≤ 255) :
    Calls Try.prog 6 #[.int .i64 more, .int .u8 c] w fun e w' => e = .returned (.bool true) ∧ Below w.heap.size w w' := by
  by_cases hall : -100 ≤ more ∧ more ≤ 100
  · obtain ⟨k, rfl⟩ := Int.eq_ofNat_of_zero_le hc.1
    exact full_walk (65536 + more).toNat k more w (by omega) hall.1 hall.2 (by omega)
  · have hcase : more < -100 ∨ (¬ more < -100 ∧ (100 : Int) < more) := by omega
    clear hall
    rcases hcase with hn' | ⟨hn', hm'⟩
    all_goals
      go_enter Try.func6, Try.ntmps6
      go_wp2_with fail
      refine (cawake_any _).mono ?_
      rintro e w2 ⟨rfl, hb2⟩
      go_wp2
      go_ret
      exact ⟨rfl, hb2⟩
end Go.Proofs.Ytloofliklmglpaa
