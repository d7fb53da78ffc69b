/- The walk of the law JetMore. -/
import Derived.Test.YtaaoeiffpldjmaaJetLawA
import Derived.Test.YtaaoeiffpldjmaaJetLawE
import Derived.Deep.CutRange
import Derived.Deep.RegionHeldLaw
namespace Go.Proofs.Ytaaoeiffpldjmaa
open Go.RowKit

theorem rd_one {w : World} {b : Nat} {u : Value} (h : w.cell? ⟨b, 0, none⟩ = some u) : Rd w (some ⟨b, 0, none⟩) [u] := by
  intro k v hk
  match k with
  | 0 =>
    obtain rfl : u = v := by simpa using hk
    exact ⟨b, 0, rfl, World.block_lt_of_cell? w _ h, h⟩
  | k + 1 => simp at hk
theorem one1 (x : Int) : ∀ u ∈ [Value.int .i64 x], u.oneCell' = true := by
  intro u hu
  simp at hu
  subst hu
  rfl

set_option maxRecDepth 100000 in
set_option maxHeartbeats 12800000 in
theorem more_walk (x y z : Int) (A2 : Option Addr) (n2 cap2 : Nat) (l2 : List Int) (mo : Int) (w : World) (h2 : IntsIn w A2 n2 cap2 l2) :
    Calls Try.prog 9 #[.agg #[.int .i64 x, .int .i64 y, .int .i64 z], .slice A2 n2 cap2, .int .i64 mo] w fun e w' => e = .returned (.bool true) ∧ Below w.heap.size w w' := by
  obtain ⟨i0, hi, hz0, hz1, hz2⟩ := info_parts info_int
  have HB0 := Lib.hid (below_new w (.cells #[.int .i64 x, .int .i64 y, .int .i64 z] 23))
  have HV0 := Lib.hid (VAt.new w x y z 23)
  have H1 := Lib.hid (fun w' (hb : Below w.heap.size w w') => plan_any x y z A2 n2 cap2 l2 h2.len w' (h2.reads.to hb))
  have HL2 := Lib.hid h2.len
  have HN2 := Lib.hid h2.nil
  have HRD := Lib.hid h2.reads
  by_cases hc : Jt.check ⟨x, y, z⟩ l2 = 0
  · have b1 : (Jt.plan ⟨x, y, z⟩ l2).2 = 0 := by rw [Jt.plan_ok hc]
    by_cases hn : n2 ≤ 500
    · have hn' : ¬ (500 : Int) < (n2 : Int) := by omega
      have hl500 : l2.length ≤ 500 := by rw [← h2.len]; exact hn
      have HCK := Lib.hid (Jt.more_err mo hc hl500)
      have HMP := Lib.hid (fun hq => Jt.more_plan (m := mo) hc hq)
      have hpl : (Jt.plan ⟨x, y, z⟩ l2).1.length ≤ 1000000000000 := by
        have := Jt.plan_len ⟨x, y, z⟩ l2
        omega
      have hql : (Jt.plan ⟨x, y, z⟩ (l2 ++ [mo])).1.length ≤ 1000000000000 := by
        have := Jt.plan_len ⟨x, y, z⟩ (l2 ++ [mo])
        rw [List.length_append, List.length_singleton] at this
        omega
      have H2 := Lib.hid (fun A' cap' w' (hr : Rd w' A' (iv (l2 ++ [mo]))) => plan_any x y z A' (n2 + 1) cap' (l2 ++ [mo]) (by rw [HL2.out]; simp) w' hr)
      have HQE := Lib.hid (show Jt.check ⟨x, y, z⟩ (l2 ++ [mo]) ≠ 0 → (Jt.plan ⟨x, y, z⟩ (l2 ++ [mo])).2 = Jt.check ⟨x, y, z⟩ (l2 ++ [mo]) from fun hq => by rw [Jt.plan_err hq])
      have HQ0 := Lib.hid (show Jt.check ⟨x, y, z⟩ (l2 ++ [mo]) = 0 → (Jt.plan ⟨x, y, z⟩ (l2 ++ [mo])).2 = 0 from fun hq => by rw [Jt.plan_ok hq])
      generalize Jt.check ⟨x, y, z⟩ (l2 ++ [mo]) = cq at HCK HMP HQE HQ0
      generalize Jt.plan ⟨x, y, z⟩ (l2 ++ [mo]) = q at H2 HMP HQE HQ0 hql
      generalize Jt.plan ⟨x, y, z⟩ l2 = p at H1 HMP b1 hpl
      obtain ⟨p1, p2⟩ := p
      obtain ⟨q1, q2⟩ := q
      simp only at b1 hpl hql
      subst b1
      have HQE2 := Lib.hid HQE.out
      have HQ02 := Lib.hid HQ0.out
      simp only at HQE2 HQ02
      have hqv : q2 = 0 ∨ q2 = 1 ∨ q2 = 9 := by
        rcases HCK.out with h1 | h1 | h1
        · exact .inl (HQ02.out h1)
        · exact .inr (.inl (by rw [HQE2.out (by omega), h1]))
        · exact .inr (.inr (by rw [HQE2.out (by omega), h1]))
      have HMP2 := Lib.hid (show q2 = 0 → ∀ w ∈ p1, q1.any (Jt.has w) = true from fun hq => HMP.out (by
        rcases HCK.out with h1 | h1 | h1
        · exact h1
        · have := HQE2.out (by omega); omega
        · have := HQE2.out (by omega); omega))
      have HPL := Lib.hid hpl
      have HQL := Lib.hid hql
      clear h2 hc hl500 hpl hql HCK HMP HQE HQ0 HQE2 HQ02
      go_enter Try.func9, Try.ntmps9
      go_wp2_with fail
      refine (H1.out _ HB0.out).mono ?_
      rintro e w1 ⟨A3, n3, cap3, rfl, hn3, hr3, hb1⟩
      simp only at hn3 hr3
      have HB1 := Lib.hid (on HB0.out hb1)
      have HV1 := Lib.hid (HV0.out.below hb1 (by simp))
      have hsz1 : w.heap.size < w1.heap.size := by have := hb1.size; simp at this; omega
      have HN3 := Lib.hid hn3
      have HR3 := Lib.hid hr3
      clear hb1 hn3 hr3
      have HK := Lib.hid (fun w' (hb : Below w1.heap.size w1 w') => HV1.out.below hb hsz1)
      have HBD := Lib.hid (show Below w1.heap.size w1 w1.drew from (Below.refl _ _).drew)
      have HRW := Lib.hid (fun w' (hb : Below w1.heap.size w1 w') => (HRD.out.to HB1.out).to hb)
      have HLN := Lib.hid (show (iv l2).length = n2 by rw [iv_length]; exact HL2.out.symm)
      have BWA := Lib.hid (HBD.out.alloc (Nat.le_refl _) (.cells #[] 3))
      have BWM := Lib.hid (HBD.out.alloc (Nat.le_refl _) (.cells #[.int .i64 mo] 3))
      have BWAM := Lib.hid (BWA.out.alloc BWA.out.size (.cells #[.int .i64 mo] 3))
      have BWMA := Lib.hid (BWM.out.alloc BWM.out.size (.cells #[] 3))
      have HSM : w1.heap.size + 1 = (w1.drew.alloc (.cells #[.int .i64 mo] 3)).heap.size := by show _ = (w1.drew.alloc _).heap.size; rw [heap_alloc_size]; rfl
      have HSA : w1.heap.size + 1 = (w1.drew.alloc (.cells #[] 3)).heap.size := by show _ = (w1.drew.alloc _).heap.size; rw [heap_alloc_size]; rfl
      have OWA := Lib.hid (show (w1.drew.alloc (.cells #[] 3)).ownsRow w1.heap.size 3 1 (.slice (some ⟨w1.heap.size, 0, none⟩) 0 0) 0 [] from World.ownsRow_lit (base := w1.heap.size) (e := 3) (size := 1) w1.drew #[] 0 (Nat.le_refl _) (by unfold maxLen; omega) rfl)
      have OWAM := Lib.hid (OWA.out.alloc (.cells #[.int .i64 mo] 3))
      have OWMA := Lib.hid (show ((w1.drew.alloc (.cells #[.int .i64 mo] 3)).alloc (.cells #[] 3)).ownsRow w1.heap.size 3 1 (.slice (some ⟨w1.heap.size + 1, 0, none⟩) 0 0) 0 [] by
        rw [HSM]
        exact World.ownsRow_lit (base := w1.heap.size) (e := 3) (size := 1) (w1.drew.alloc (.cells #[.int .i64 mo] 3)) #[] 0 BWM.out.size (by unfold maxLen; omega) rfl)
      have CMA := Lib.hid (show ((w1.drew.alloc (.cells #[.int .i64 mo] 3)).alloc (.cells #[] 3)).cell? ⟨w1.heap.size, 0, none⟩ = some (.int .i64 mo) by
        rw [World.cell?_alloc_lt _ _ _ (by rw [← HSM]; exact Nat.lt_succ_self _)]
        exact new0 w1.drew _ _)
      have CAM := Lib.hid (show ((w1.drew.alloc (.cells #[] 3)).alloc (.cells #[.int .i64 mo] 3)).cell? ⟨w1.heap.size + 1, 0, none⟩ = some (.int .i64 mo) by
        rw [HSA]
        exact new0 (w1.drew.alloc (.cells #[] 3)) _ _)
      have HC1 := Lib.hid (show 0 + n2 ≤ maxLen by unfold maxLen; omega)
      have HC2 := Lib.hid (show (0 + n2) * 8 ≤ 140737488355328 by omega)
      have HC3 := Lib.hid (show n2 + 1 ≤ maxLen by unfold maxLen; omega)
      have HC4 := Lib.hid (show (n2 + 1) * 8 ≤ 140737488355328 by omega)
      have HIV := Lib.hid (show [] ++ iv l2 ++ [Value.int .i64 mo] = iv (l2 ++ [mo]) by rw [List.nil_append, iv_snoc])
      clear HSM HSA
      go_upto_region 4 with fail
      go_cut [9, 10] from 30 to 40 (fun s9 s10 wx => ∃ A4 n4 cap4, s9 = .slice A4 n4 cap4 ∧ s10 = .int .i64 q2 ∧ n4 = q1.length ∧ Jt.Wins wx A4 q1 ∧ Below w1.heap.size w1 wx)
      case first =>
        go_region_held_law (fun wx => wx.cell? ⟨w.heap.size, 0, none⟩ = some (.int .i64 x) ∧ wx.cell? ⟨w.heap.size, 1, none⟩ = some (.int .i64 y) ∧ wx.cell? ⟨w.heap.size, 2, none⟩ = some (.int .i64 z))
          (first | exact HK.out _ HBD.out | exact HK.out _ BWA.out | exact HK.out _ BWM.out | exact HK.out _ BWAM.out | exact HK.out _ BWMA.out | exact HK.out _ BW5.out | exact HK.out _ (BW5.out.alloc BW5.out.size _) | exact HK.out _ BW6.out | exact HK.out _ BW7.out)
          (first
          | (refine step_appN rfl _ _ 24 rfl w1.heap.size 3 i0 (.int .i64 0) 8 Try.underlying24 hi hz0 hz1 hz2 rfl _ 0 [] rfl OWAM.out A2 n2 cap2 (iv l2) rfl HLN.out HN2.out (HRW.out _ BWAM.out) (iv_one l2) HC1.out HC2.out BWAM.out.size n2 (Nat.zero_add n2).symm ?_; intro A5 cap5 w5 hown5 hfar5 hb5; have HO5 := Lib.hid hown5; have BW5 := Lib.hid (BWAM.out.trans hb5); have CM5 := Lib.hid (hfar5 _ _ CAM.out (fun h => by injection h with h; exact absurd h (Nat.succ_ne_self _))); clear hown5 hb5 hfar5)
          | (refine step_appN rfl _ _ 24 rfl w1.heap.size 3 i0 (.int .i64 0) 8 Try.underlying24 hi hz0 hz1 hz2 rfl _ 0 [] rfl OWMA.out A2 n2 cap2 (iv l2) rfl HLN.out HN2.out (HRW.out _ BWMA.out) (iv_one l2) HC1.out HC2.out BWMA.out.size n2 (Nat.zero_add n2).symm ?_; intro A5 cap5 w5 hown5 hfar5 hb5; have HO5 := Lib.hid hown5; have BW5 := Lib.hid (BWMA.out.trans hb5); have CM5 := Lib.hid (hfar5 _ _ CMA.out (fun h => by injection h with h; exact absurd h.symm (Nat.succ_ne_self _))); clear hown5 hb5 hfar5)
          | (refine step_appN rfl _ _ 24 rfl w1.heap.size 3 i0 (.int .i64 0) 8 Try.underlying24 hi hz0 hz1 hz2 rfl _ 0 [] rfl OWA.out A2 n2 cap2 (iv l2) rfl HLN.out HN2.out (HRW.out _ BWA.out) (iv_one l2) HC1.out HC2.out BWA.out.size n2 (Nat.zero_add n2).symm ?_; intro A5 cap5 w5 hown5 hfar5 hb5; have HO5 := Lib.hid hown5; have BW5 := Lib.hid (BWA.out.trans hb5); clear hown5 hb5 hfar5)
          | (refine step_appN rfl _ _ 24 rfl w1.heap.size 3 i0 (.int .i64 0) 8 Try.underlying24 hi hz0 hz1 hz2 rfl _ n2 _ rfl (HO5.out.alloc _) (some ⟨w5.heap.size, 0, none⟩) 1 1 [.int .i64 mo] rfl rfl (fun h => nomatch h) (lit_rdm w5 w5.heap.size rfl [.int .i64 mo] 3 _) (one1 mo) HC3.out HC4.out (Nat.le_trans BW5.out.size (below_new w5 _).size) (n2 + 1) rfl ?_; intro A6 cap6 w6 hown6 hfar6 hb6; have HR6 := Lib.hid (show Rd w6 A6 (iv (l2 ++ [mo])) by rw [← HIV.out]; exact own_rd hown6); have BW6 := Lib.hid ((BW5.out.alloc BW5.out.size _).trans hb6); clear hown6 hb6 hfar6)
          | (refine step_appN rfl _ _ 24 rfl w1.heap.size 3 i0 (.int .i64 0) 8 Try.underlying24 hi hz0 hz1 hz2 rfl _ n2 _ rfl HO5.out (some ⟨w1.heap.size + 1, 0, none⟩) 1 1 [.int .i64 mo] rfl rfl (fun h => nomatch h) (rd_one CM5.out) (one1 mo) HC3.out HC4.out BW5.out.size (n2 + 1) rfl ?_; intro A6 cap6 w6 hown6 hfar6 hb6; have HR6 := Lib.hid (show Rd w6 A6 (iv (l2 ++ [mo])) by rw [← HIV.out]; exact own_rd hown6); have BW6 := Lib.hid (BW5.out.trans hb6); clear hown6 hb6 hfar6)
          | (refine step_appN rfl _ _ 24 rfl w1.heap.size 3 i0 (.int .i64 0) 8 Try.underlying24 hi hz0 hz1 hz2 rfl _ n2 _ rfl HO5.out (some ⟨w1.heap.size, 0, none⟩) 1 1 [.int .i64 mo] rfl rfl (fun h => nomatch h) (rd_one CM5.out) (one1 mo) HC3.out HC4.out BW5.out.size (n2 + 1) rfl ?_; intro A6 cap6 w6 hown6 hfar6 hb6; have HR6 := Lib.hid (show Rd w6 A6 (iv (l2 ++ [mo])) by rw [← HIV.out]; exact own_rd hown6); have BW6 := Lib.hid (BW5.out.trans hb6); clear hown6 hb6 hfar6)
          | (go_at_call 12; refine (H2.out A6 cap6 w6 HR6.out).mono ?_; rintro e w7 ⟨A7, n7, cap7, rfl, hn7, hr7, hb7⟩; have HN7 := Lib.hid hn7; have HR7 := Lib.hid hr7; have BW7 := Lib.hid (on BW6.out hb7); clear hn7 hr7 hb7))
        all_goals (go_wp2_with fail; go_meet; exact ⟨A7, n7, cap7, rfl, rfl, HN7.out, HR7.out, BW7.out⟩)
      case rest =>
        obtain ⟨A4, n4, cap4, rfl, rfl, hn4, hr4, hb4⟩ := hcut
        have HN4 := Lib.hid hn4
        have HR4 := Lib.hid hr4
        have HB4 := Lib.hid (on HB1.out hb4)
        have HR5 := Lib.hid (HR3.out.to hb4)
        clear hn4 hr4 hb4
        rcases hqv with rfl | rfl | rfl
        · have HALL := Lib.hid (HMP2.out rfl)
          have hpl := HPL.out
          rw [← HN3.out] at hpl
          have hql := HQL.out
          rw [← HN4.out] at hql
          have HWC := Lib.hid (show Below wc.heap.size wc wc from Below.refl _ _)
          go_wp2
          go_loopg [54] n3 (fun g i wr => ∃ k : Nat, k ≤ n3 ∧ g = n3 - k ∧ i = .int .i64 (k : Int) ∧ Below wc.heap.size wc wr)
          case atStart => exact ⟨0, by omega, rfl, rfl, HWC.out⟩
          case round =>
            obtain ⟨k, hk, rfl, rfl, hbw⟩ := hrel
            have HB := Lib.hid hbw
            have hsz := hbw.size
            by_cases hlt : k < n3
            · have hkp : k < p1.length := by rw [← HN3.out]; exact hlt
              obtain ⟨b, off, rfl, hblk, c0, c1⟩ := (HR5.out.to hbw) k _ (List.getElem?_eq_getElem hkp)
              have hfound := HALL.out _ (List.getElem_mem hkp)
              generalize p1[k] = e at c0 c1 hfound
              obtain ⟨u, v⟩ := e
              simp only at c0 c1
              have HFD := Lib.hid hfound
              have hki : (k : Int) < (n3 : Int) := by omega
              obtain ⟨wo, hwo⟩ : ∃ wo, wo = wr.alloc (.cells #[.int .i64 u, .int .i64 v] 44) := ⟨_, rfl⟩
              have HBO := Lib.hid (show Below wc.heap.size wc wo by rw [hwo]; exact HB.out.alloc hsz _)
              have hszo : wr.heap.size < wo.heap.size := by rw [hwo]; simp
              have HU0 := Lib.hid (show wo.cell? ⟨wr.heap.size, 0, none⟩ = some (.int .i64 u) by rw [hwo]; unfold World.cell?; rw [heap_alloc_new]; simp)
              have HU1 := Lib.hid (show wo.cell? ⟨wr.heap.size, 1, none⟩ = some (.int .i64 v) by rw [hwo]; unfold World.cell?; rw [heap_alloc_new]; simp)
              have HWO := Lib.hid hwo
              clear hbw hfound hkp hwo
              go_wp2
              rw [← HWO.out]
              obtain ⟨bw, hbwe⟩ : ∃ bw, bw = wr.heap.size := ⟨_, rfl⟩
              rw [← hbwe] at HU0 HU1 hszo ⊢
              have hbs : wc.heap.size ≤ bw := by rw [hbwe]; exact hsz
              clear hbwe hsz
              go_loopg [13, 60] n4 (fun g f i wi => ∃ (j : Nat) (o : Bool), j ≤ n4 ∧ g = n4 - j ∧ i = .int .i64 (j : Int) ∧ f = .bool o ∧ Hid (o = (q1.take j).any (Jt.has (u, v))) ∧ Below wo.heap.size wo wi)
              case atStart => exact ⟨0, false, by omega, rfl, rfl, rfl, Lib.hid rfl, Below.refl _ _⟩
              case round =>
                obtain ⟨j, o, hj, rfl, rfl, rfl, HO, hbi⟩ := hrel
                have HBI := Lib.hid hbi
                have hszi := hbi.size
                by_cases hjl : j < n4
                · have hjq : j < q1.length := by rw [← HN4.out]; exact hjl
                  have hbci : Below wc.heap.size wc wr := HBO.out.trans (hbi.mono HBO.out.size)
                  obtain ⟨b2, off2, rfl, hblk2, d0, d1⟩ := (HR4.out.to hbci) j _ (List.getElem?_eq_getElem hjq)
                  have hu0 : wr.cell? ⟨bw, 0, none⟩ = some (.int .i64 u) := by rw [hbi.cell hszo]; exact HU0.out
                  have hu1 : wr.cell? ⟨bw, 1, none⟩ = some (.int .i64 v) := by rw [hbi.cell hszo]; exact HU1.out
                  have HAS := Lib.hid (Jt.any_snoc q1 (Jt.has (u, v)) j _ (List.getElem?_eq_getElem hjq))
                  generalize q1[j] = e at d0 d1 HAS
                  obtain ⟨s, t⟩ := e
                  simp only at d0 d1
                  have hji : (j : Int) < (n4 : Int) := by omega
                  have hbl : bw < wr.heap.size := by omega
                  clear hbi hbci hjq
                  cases o with
                  | true =>
                    have HN := Lib.hid (show true = (q1.take (j + 1)).any (Jt.has (u, v)) by rw [HAS.out, ← HO.out]; rfl)
                    go_wp2
                    go_roundg (n4 - (j + 1))
                    case measure => omega
                    case rel => exact ⟨j + 1, true, by omega, rfl, by go_num, rfl, HN, HBI.out.alloc hszi _⟩
                  | false =>
                    have hcase : (s ≤ u ∧ v ≤ t) ∨ (s ≤ u ∧ ¬ v ≤ t) ∨ ¬ s ≤ u := by omega
                    rcases hcase with ⟨h1, h2⟩ | ⟨h1, h2⟩ | h1
                    · have HN := Lib.hid (show true = (q1.take (j + 1)).any (Jt.has (u, v)) by rw [HAS.out, ← HO.out]; simp [Jt.has, h1, h2])
                      go_wp2
                      go_roundg (n4 - (j + 1))
                      case measure => omega
                      case rel => exact ⟨j + 1, true, by omega, rfl, by go_num, by first | rfl | simp [h1, h2], HN, HBI.out.alloc hszi _⟩
                    · have HN := Lib.hid (show false = (q1.take (j + 1)).any (Jt.has (u, v)) by rw [HAS.out, ← HO.out]; simp [Jt.has]; omega)
                      go_wp2
                      go_roundg (n4 - (j + 1))
                      case measure => omega
                      case rel => exact ⟨j + 1, false, by omega, rfl, by go_num, by first | rfl | simp [h1, h2], HN, HBI.out.alloc hszi _⟩
                    · have HN := Lib.hid (show false = (q1.take (j + 1)).any (Jt.has (u, v)) by rw [HAS.out, ← HO.out]; simp [Jt.has]; omega)
                      go_wp2
                      go_roundg (n4 - (j + 1))
                      case measure => omega
                      case rel => exact ⟨j + 1, false, by omega, rfl, by go_num, by first | rfl | simp [h1], HN, HBI.out.alloc hszi _⟩
                · have hjn : j = n4 := by omega
                  have ho : o = true := by rw [HO.out, hjn, HN4.out, List.take_length]; exact HFD.out
                  have hji : ¬ (j : Int) < (n4 : Int) := by omega
                  have HBCI := Lib.hid (show Below wc.heap.size wc wr from HBO.out.trans (hbi.mono HBO.out.size))
                  subst ho
                  clear hbi
                  go_wp2
                  go_roundg (n3 - (k + 1))
                  case measure => omega
                  case rel => exact ⟨k + 1, by omega, rfl, by go_num, HBCI.out⟩
            · have hki : ¬ (k : Int) < (n3 : Int) := by omega
              clear hbw
              go_wp2_with fail
              refine (awake_any _).mono ?_
              rintro e w9 ⟨rfl, hb9⟩
              have HB9 := Lib.hid (on HB4.out (on HB.out hb9))
              clear hb9
              go_wp2
              go_ret
              exact ⟨rfl, HB9.out⟩
        · go_wp2_with fail
          refine (awake_any _).mono ?_
          rintro e w9 ⟨rfl, hb9⟩
          have HB9 := Lib.hid (on HB4.out hb9)
          clear hb9
          go_wp2
          go_ret
          exact ⟨rfl, HB9.out⟩
        · go_wp2_with fail
          refine (awake_any _).mono ?_
          rintro e w9 ⟨rfl, hb9⟩
          have HB9 := Lib.hid (on HB4.out hb9)
          clear hb9
          go_wp2
          go_ret
          exact ⟨rfl, HB9.out⟩
    · have hn' : (500 : Int) < (n2 : Int) := by omega
      generalize Jt.plan ⟨x, y, z⟩ l2 = p at H1 b1
      obtain ⟨p1, p2⟩ := p
      simp only at b1
      subst b1
      clear h2 hc hn
      go_enter Try.func9, Try.ntmps9
      go_wp2_with fail
      refine (H1.out _ HB0.out).mono ?_
      rintro e w1 ⟨A3, n3, cap3, rfl, hn3, hr3, hb1⟩
      have HB1 := Lib.hid (on HB0.out hb1)
      clear hb1 hn3 hr3
      go_wp2_with fail
      refine (awake_any _).mono ?_
      rintro e w9 ⟨rfl, hb9⟩
      have HB9 := Lib.hid (on HB1.out hb9)
      clear hb9
      go_wp2
      go_ret
      exact ⟨rfl, HB9.out⟩
  · rw [Jt.plan_err hc] at H1
    generalize Jt.check ⟨x, y, z⟩ l2 = c at H1 hc
    have hcf : (c == 0) = false := beq_f hc
    have hcn : (c != 0) = true := by simp [hc]
    clear h2 hc
    go_enter Try.func9, Try.ntmps9
    go_wp2_with fail
    refine (H1.out _ HB0.out).mono ?_
    rintro e w1 ⟨A3, n3, cap3, rfl, hn3, hr3, hb1⟩
    have HB1 := Lib.hid (on HB0.out hb1)
    clear hb1 hn3 hr3
    go_wp2_with fail
    refine (awake_any _).mono ?_
    rintro e w9 ⟨rfl, hb9⟩
    have HB9 := Lib.hid (on HB1.out hb9)
    clear hb9
    go_wp2
    go_ret
    exact ⟨rfl, HB9.out⟩
end Go.Proofs.Ytaaoeiffpldjmaa
