/- The walk of Plan. -/
import Derived.Test.YtaaoeiffpldjmaaJetPlanA
import Derived.Deep.CutRange
namespace Go.Proofs.Ytaaoeiffpldjmaa
open Go.RowKit

theorem heap_alloc_size (w : World) (o : Obj) : (w.alloc o).heap.size = w.heap.size + 1 := by simp

set_option maxRecDepth 100000 in
set_option maxHeartbeats 6400000 in
theorem plan_any (d h0 r : Int) (A2 : Option Addr) (n2 cap2 : Nat) (l2 : List Int) (hn2 : n2 = l2.length) (w : World) (hr2 : Rd w A2 (iv l2)) :
    Calls Try.prog 12 #[.agg #[.int .i64 d, .int .i64 h0, .int .i64 r], .slice A2 n2 cap2] w (RetW w (Jt.plan ⟨d, h0, r⟩ l2)) := by
  subst hn2
  obtain ⟨i0, hi, hz0, hz1, hz2⟩ := info_partsW info_win
  have HR2 := Lib.hid hr2
  clear hr2
  have HC := Lib.hid (check_any d h0 r A2 l2.length cap2 l2 rfl (w.alloc (.cells #[.int .i64 d, .int .i64 h0, .int .i64 r] 23)) (HR2.out.to (below_new w _)))
  by_cases hc0 : Jt.check ⟨d, h0, r⟩ l2 ≠ 0
  · have HF := Lib.hid (Jt.plan_err hc0)
    generalize Jt.check ⟨d, h0, r⟩ l2 = c at HC hc0 HF
    have hcf : (c == 0) = false := beq_f hc0
    go_enter Try.func12, Try.ntmps12
    go_wp2
    go_step3
    go_wp2_with fail
    refine (HC.out).mono ?_
    rintro e w0 ⟨rfl, hb⟩
    have HB0 := Lib.hid ((below_new w _).trans (hb.mono (by simp)) : Below w.heap.size w w0)
    clear hb hc0
    go_wp2
    try rw [Exit.noGoto_ret]
    go_ret2
    exact RetW.fail HF.out HB0.out
  have hc1 : Jt.check ⟨d, h0, r⟩ l2 = 0 := by omega
  obtain ⟨hk0, hl512, hs0⟩ := Jt.check_zero hc1
  obtain ⟨hdd, hhh, hrr⟩ := Jt.chk_zero hk0
  obtain ⟨hr0, hr1⟩ := hrr
  have HS0 := Lib.hid (Jt.plan_ok hc1)
  have HRG := Lib.hid (Jt.srt_all hs0)
  have HPR := Lib.hid (Jt.srt_pair hs0).1
  rw [hc1] at HC
  clear hc0 hc1 hk0 hs0
  go_enter Try.func12, Try.ntmps12
  go_wp2
  go_step3
  go_wp2_with fail
  refine (HC.out).mono ?_
  rintro e w0 ⟨rfl, hb⟩
  have HB0 := Lib.hid ((below_new w _).trans (hb.mono (by simp)) : Below w.heap.size w w0)
  have HR := Lib.hid (HR2.out.to HB0.out)
  have hsz0 : w.heap.size < w0.heap.size := by have := hb.size; simp at this; omega
  have HV0 := Lib.hid (show w0.cell? ⟨w.heap.size, 0, none⟩ = some (.int .i64 d) by
    rw [hb.cell (by simp)]; unfold World.cell?; rw [heap_alloc_new]; simp)
  have HV1 := Lib.hid (show w0.cell? ⟨w.heap.size, 1, none⟩ = some (.int .i64 h0) by
    rw [hb.cell (by simp)]; unfold World.cell?; rw [heap_alloc_new]; simp)
  have HV2 := Lib.hid (show w0.cell? ⟨w.heap.size, 2, none⟩ = some (.int .i64 r) by
    rw [hb.cell (by simp)]; unfold World.cell?; rw [heap_alloc_new]; simp)
  clear hb
  go_wp2
  go_step3
  go_wp2
  go_loopw [7, 20] (fun o i wr => ∃ (k : Nat) (A3 : Option Addr) (n3 cap3 : Nat) (acc : List Jt.Win), k ≤ l2.length ∧ i = .int .i64 (k : Int) ∧ o = .slice A3 n3 cap3 ∧ Hid (n3 = acc.length) ∧ n3 ≤ k ∧ Hid (Jt.plan ⟨d, h0, r⟩ l2 = ((l2.drop k).foldl (Jt.add ⟨d, h0, r⟩) acc, 0)) ∧ Hid (Jt.Good ⟨d, h0, r⟩ (l2.drop k) acc) ∧
    wr.ownsRow w0.heap.size 44 2 (.slice A3 n3 cap3) n3 (Jt.cells acc) ∧ Below w0.heap.size w0 wr) (fun _ i _ => l2.length - (intOf i).toNat)
  case atStart => exact ⟨0, none, 0, 0, [], by omega, rfl, rfl, Lib.hid rfl, by omega, HS0, Lib.hid (Jt.good_nil _ _), World.ownsRow_nil _ _ _ _, Below.refl _ _⟩
  case round =>
    obtain ⟨k, A3, n3, cap3, acc, hk, rfl, rfl, HN3, hn3, HG, HGD, ho, hbw⟩ := hrel
    have HO := Lib.hid ho
    have HB := Lib.hid hbw
    have hsz := hbw.size
    have HBW := Lib.hid (show Below w.heap.size w wr from HB0.out.trans (hbw.mono (by omega)))
    have hszl : w.heap.size < wr.heap.size := by omega
    by_cases hlt : k < l2.length
    · have hdr : l2.drop k = l2[k] :: l2.drop (k + 1) := List.drop_eq_getElem_cons hlt
      obtain ⟨b, off, rfl, hlt2, hcx⟩ := (HR.out.to hbw).ati hlt
      have hv0 : wr.cell? ⟨w.heap.size, 0, none⟩ = some (.int .i64 d) := by rw [hbw.cell hsz0]; exact HV0.out
      have hv1 : wr.cell? ⟨w.heap.size, 1, none⟩ = some (.int .i64 h0) := by rw [hbw.cell hsz0]; exact HV1.out
      have hv2 : wr.cell? ⟨w.heap.size, 2, none⟩ = some (.int .i64 r) := by rw [hbw.cell hsz0]; exact HV2.out
      have hrg := HRG.out _ (List.getElem_mem hlt)
      have hpr : (l2.drop k).Pairwise (· ≤ ·) := HPR.out.sublist (List.drop_sublist k l2)
      generalize l2[k] = h at hdr hcx hrg
      rw [hdr] at hpr
      have HGD2 := Lib.hid (Jt.good_add (v := ⟨d, h0, r⟩) hdd hhh hrg hpr (by rw [← hdr]; exact HGD.out))
      have HND := Lib.hid (need_any d h0 r h wr hdd hhh hrg)
      have HG2 := Lib.hid (show Jt.plan ⟨d, h0, r⟩ l2 = ((l2.drop (k + 1)).foldl (Jt.add ⟨d, h0, r⟩) (Jt.add ⟨d, h0, r⟩ acc h), 0) by rw [HG.out, hdr]; rfl)
      obtain ⟨hg0, hg1⟩ := hrg
      have hki : (k : Int) < (l2.length : Int) := by omega
      have HV2b := Lib.hid hv2
      have HNB := Lib.hid (show 0 ≤ h + d ∧ h + d ≤ 1049676 by omega)
      clear hbw ho hdr hpr
      go_wp2_with fail
      refine (HND.out).mono ?_
      rintro e wn ⟨rfl, hbn⟩
      have hszn := hbn.size
      have hszl2 : w.heap.size < wn.heap.size := by omega
      have HBN := Lib.hid (on HB.out hbn)
      have HO1 := Lib.hid (own2_kept HO.out hbn)
      have hw2 : wn.cell? ⟨w.heap.size, 2, none⟩ = some (.int .i64 r) := by rw [hbn.cell hszl]; exact HV2b.out
      clear hbn hv0 hv1 hv2 hcx
      obtain ⟨x, hx⟩ : ∃ x, x = h + d := ⟨_, rfl⟩
      obtain ⟨y, hy⟩ : ∃ y, y = h + d + h0 := ⟨_, rfl⟩
      rw [← hy, ← hx]
      rw [← hx] at HNB
      obtain ⟨hx0, hx1⟩ := HNB.out
      have HX := Lib.hid hx
      have HY := Lib.hid hy
      clear hx hy
      have hac : acc = [] ∨ ∃ (i : List Jt.Win) (u v : Int), acc = i ++ [(u, v)] := by
        rcases List.eq_nil_or_concat acc with h1 | ⟨i, ⟨u, v⟩, h1⟩
        · exact .inl h1
        · exact .inr ⟨i, u, v, by rw [h1, List.concat_eq_append]⟩
      rcases hac with rfl | ⟨i, u, v, rfl⟩
      · have hn0 : n3 = 0 := HN3.out
        subst hn0
        have HADD := Lib.hid (show Jt.add ⟨d, h0, r⟩ [] h = [(x, y)] by rw [Jt.add_first, HX.out, HY.out])
        have HSZ := Lib.hid (fun nq : Nat => show wn.heap.size + 1 = ((wn.alloc (.cells #[.int .i64 x, .int .i64 y] 44)).drewN nq).heap.size by show _ = (wn.alloc _).heap.size; simp)
        go_wp2
        go_quiet (fail)
        go_wp2_with (at_builtin; refine wpList_appW rfl _ _ 27 rfl w0.heap.size 44 i0 _ 16 Try.underlying27 hi hz0 hz1 hz2 rfl _ 0 (Jt.cells []) rfl (own2_kept HO1.out ((below_drewN (below_new wn _) _).alloc (by simp) _)) ⟨wn.heap.size + 1, 0, none⟩ 1 (.int .i64 x) (.int .i64 y) rfl (new2 _ x y _ _ (HSZ.out _)) (one2 x y) (by unfold maxLen; omega) (by omega) (by simp; omega) ?_; intro A4 cap4 w1 hown1 hb1; have HO2 := Lib.hid hown1; have HB1 := Lib.hid hb1; clear hown1 hb1)
        have HG3 := Lib.hid (show Jt.plan ⟨d, h0, r⟩ l2 = ((l2.drop (k + 1)).foldl (Jt.add ⟨d, h0, r⟩) [(x, y)], 0) by rw [HG2.out, HADD.out])
        have HGD3 := Lib.hid (show Jt.Good ⟨d, h0, r⟩ (l2.drop (k + 1)) [(x, y)] by rw [← HADD.out]; exact HGD2.out)
        exact ⟨⟨k + 1, A4, 1, cap4, [(x, y)], by omega, by go_num, rfl, Lib.hid rfl, by omega, HG3, HGD3, HO2.out, (((below_drewN (HBN.out.alloc (by omega) _) _).alloc (by simp; omega) _).trans HB1.out)⟩, by simp [intOf]; omega⟩
      · have hn0 : n3 = i.length + 1 := by rw [HN3.out]; simp
        obtain ⟨m, hm⟩ : ∃ m, m = i.length := ⟨_, rfl⟩
        rw [← hm] at hn0
        subst hn0
        obtain ⟨g, hA, hgB, hgl⟩ := own2_some HO1.out (by omega)
        subst hA
        have hcell : wn.cell? ⟨g, m * 2 + 1, none⟩ = some (.int .i64 v) := (World.ownsRow.cellAt HO1.out (m * 2 + 1) (by omega)).trans (by rw [hm]; exact (Jt.cells_last i u v).2)
        have hv := HGD.out (u, v) (by simp)
        obtain ⟨hv0, hv1, _⟩ := hv
        simp only at hv0 hv1
        have HM := Lib.hid hm
        have hmx : ((m + 1 : Nat) : Int) - 1 = (m : Int) := by omega
        have hmp : (0 : Int) < ((m + 1 : Nat) : Int) := by omega
        have hml : (m : Int) < ((m + 1 : Nat) : Int) := by omega
        have hml2 : (m : Int) < (m : Int) + 1 := by omega
        have hml3 : m < m + 1 := by omega
        have hm0 : (0 : Int) ≤ (m : Int) := by omega
        have hmw : IntKind.i64.wrap (m : Int) = (m : Int) := by rw [IntKind.wrap_i64]; omega
        have hfz : (wn.alloc (.cells #[.int .i64 x, .int .i64 y] 44)).frozen? ⟨g, m * 2 + 1, none⟩ = false := World.ownsRow.frozenAt (HO1.out.alloc _) (m * 2 + 1)
        have HST := Lib.hid (fun nq : Nat => show (((wn.alloc (.cells #[.int .i64 x, .int .i64 y] 44)).drewN nq).setCell ⟨g, m * 2 + 1, none⟩ (.int .i64 y)).ownsRow w0.heap.size 44 2 (.slice (some ⟨g, 0, none⟩) (m + 1) cap3) (m + 1) (Jt.cells (i ++ [(u, y)])) by
          have := ((own2_kept HO1.out (below_drewN (below_new wn (.cells #[.int .i64 x, .int .i64 y] 44)) nq)).stored (m * 2 + 1) (.int .i64 y)).1
          rw [HM.out, Jt.cells_set] at this
          rw [HM.out]
          exact this)
        have HBST := Lib.hid (fun nq : Nat => (below_drewN (HBN.out.alloc (by omega) (.cells #[.int .i64 x, .int .i64 y] 44)) nq).setCell (p := ⟨g, m * 2 + 1, none⟩) hgB (.int .i64 y))
        have hjn : ((x < v) ∨ (¬ x < v ∧ x - v < r)) ∨ (¬ x < v ∧ ¬ x - v < r) := by omega
        rcases hjn with hj | ⟨hj1, hj2⟩
        · have HADD := Lib.hid (show Jt.add ⟨d, h0, r⟩ (i ++ [(u, v)]) h = i ++ [(u, y)] by
            rw [HY.out]
            exact Jt.add_join ⟨d, h0, r⟩ i u v h (by
              rw [HX.out] at hj
              rcases hj with h1 | ⟨_, h1⟩
              · exact .inl h1
              · exact .inr h1))
          have HG3 := Lib.hid (show Jt.plan ⟨d, h0, r⟩ l2 = ((l2.drop (k + 1)).foldl (Jt.add ⟨d, h0, r⟩) (i ++ [(u, y)]), 0) by rw [HG2.out, HADD.out])
          have HGD3 := Lib.hid (show Jt.Good ⟨d, h0, r⟩ (l2.drop (k + 1)) (i ++ [(u, y)]) by rw [← HADD.out]; exact HGD2.out)
          have HLN := Lib.hid (show m + 1 = (i ++ [(u, y)]).length by rw [HM.out]; simp)
          clear hm
          rcases hj with h1 | ⟨h1, h2⟩
          · go_wp2
            go_quiet (fail)
            go_wp2
            exact ⟨⟨k + 1, some ⟨g, 0, none⟩, m + 1, cap3, i ++ [(u, y)], by omega, by go_num, rfl, HLN, by omega, HG3, HGD3, HST.out _, HBST.out _⟩, by simp [intOf]; omega⟩
          · obtain ⟨D, hD⟩ : ∃ D, D = x - v := ⟨_, rfl⟩
            have hw : IntKind.i64.wrap (x - v) = D := by rw [IntKind.wrap_i64, hD]; omega
            rw [← hD] at h2
            clear hD
            go_upto_region 10 with fail
            go_quiet (fail)
            go_wp2
            exact ⟨⟨k + 1, some ⟨g, 0, none⟩, m + 1, cap3, i ++ [(u, y)], by omega, by go_num, rfl, HLN, by omega, HG3, HGD3, HST.out _, HBST.out _⟩, by simp [intOf]; omega⟩
        · have HADD := Lib.hid (show Jt.add ⟨d, h0, r⟩ (i ++ [(u, v)]) h = i ++ [(u, v)] ++ [(x, y)] by
            rw [HY.out, HX.out]
            exact Jt.add_new ⟨d, h0, r⟩ i u v h (by rw [← HX.out]; exact hj1) (by rw [← HX.out]; exact hj2))
          have HG3 := Lib.hid (show Jt.plan ⟨d, h0, r⟩ l2 = ((l2.drop (k + 1)).foldl (Jt.add ⟨d, h0, r⟩) (i ++ [(u, v)] ++ [(x, y)]), 0) by rw [HG2.out, HADD.out])
          have HGD3 := Lib.hid (show Jt.Good ⟨d, h0, r⟩ (l2.drop (k + 1)) (i ++ [(u, v)] ++ [(x, y)]) by rw [← HADD.out]; exact HGD2.out)
          have HLN := Lib.hid (show m + 1 + 1 = (i ++ [(u, v)] ++ [(x, y)]).length by rw [HM.out]; simp)
          have HSZ := Lib.hid (fun nq : Nat => show wn.heap.size + 1 = ((wn.alloc (.cells #[.int .i64 x, .int .i64 y] 44)).drewN nq).heap.size by show _ = (wn.alloc _).heap.size; simp)
          have HN1 := Lib.hid (show m + 1 + 1 ≤ maxLen by unfold maxLen; omega)
          have HN2 := Lib.hid (show (m + 1 + 1) * 16 ≤ 140737488355328 by omega)
          have HN3b := Lib.hid (fun nq : Nat => show w0.heap.size ≤ (((wn.alloc (.cells #[.int .i64 x, .int .i64 y] 44)).drewN nq).alloc (.cells #[.int .i64 x, .int .i64 y] 44)).heap.size by
            have := HSZ.out nq
            rw [heap_alloc_size, ← this]
            omega)
          have HOW := Lib.hid (fun nq : Nat => show (((wn.alloc (.cells #[.int .i64 x, .int .i64 y] 44)).drewN nq).alloc (.cells #[.int .i64 x, .int .i64 y] 44)).ownsRow w0.heap.size 44 2 (.slice (some ⟨g, 0, none⟩) (m + 1) cap3) (m + 1) (Jt.cells (i ++ [(u, v)])) from own2_kept HO1.out ((below_drewN (below_new wn _) nq).alloc (by rw [← HSZ.out nq]; omega) _))
          have HNW := Lib.hid (fun nq : Nat => new2 ((wn.alloc (.cells #[.int .i64 x, .int .i64 y] 44)).drewN nq) x y 44 (wn.heap.size + 1) (HSZ.out nq))
          obtain ⟨D, hD⟩ : ∃ D, D = x - v := ⟨_, rfl⟩
          have hw : IntKind.i64.wrap (x - v) = D := by rw [IntKind.wrap_i64, hD]; omega
          rw [← hD] at hj2
          clear hD hm
          go_upto_region 10 with fail
          go_quiet (fail)
          go_wp2_with (at_builtin; refine wpList_appW rfl _ _ 27 rfl w0.heap.size 44 i0 _ 16 Try.underlying27 hi hz0 hz1 hz2 rfl _ (m + 1) (Jt.cells (i ++ [(u, v)])) rfl (HOW.out _) ⟨wn.heap.size + 1, 0, none⟩ 1 (.int .i64 x) (.int .i64 y) rfl (HNW.out _) (one2 x y) HN1.out HN2.out (HN3b.out _) ?_; intro A4 cap4 w1 hown1 hb1; have HO2 := Lib.hid hown1; have HB1 := Lib.hid hb1; clear hown1 hb1)
          have HO3 := HO2.out
          rw [Jt.cells_snoc] at HO3
          exact ⟨⟨k + 1, A4, m + 1 + 1, cap4, i ++ [(u, v)] ++ [(x, y)], by omega, by go_num, rfl, HLN, by omega, HG3, HGD3, HO3, (((below_drewN (HBN.out.alloc (by omega) _) _).alloc (by simp; omega) _).trans HB1.out)⟩, by simp [intOf]; omega⟩
    · have hke : k = l2.length := by omega
      have HF := Lib.hid (show Jt.plan ⟨d, h0, r⟩ l2 = (acc, 0) by rw [HG.out, hke, List.drop_length]; rfl)
      have hki : ¬ (k : Int) < (l2.length : Int) := by omega
      clear hbw ho
      go_wp2
      try rw [Exit.noGoto_ret]
      go_ret2
      exact ⟨A3, n3, cap3, by rw [HF.out]; rfl, by rw [HF.out]; exact HN3.out, by rw [HF.out]; exact Jt.own_wins HO.out, HBW.out⟩
end Go.Proofs.Ytaaoeiffpldjmaa
