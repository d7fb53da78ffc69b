/- The walk of written. -/
import Derived.Test.YtcpdfgckfefboaaJnWrA
import Derived.Deep.QuietTactic
namespace Go.Proofs.Ytcpdfgckfefboaa
open Go.RowKit
/-- The call returns the journal of the events, the events, and where their frames end. -/
def RetW (w : World) (es : List Jn.Ev) (e : Ending) (w' : World) : Prop :=
  ∃ A n cap A2 n2 cap2 A3 n3 cap3, e = .returned (.tuple #[.slice A n cap, .slice A2 n2 cap2, .slice A3 n3 cap3]) ∧ n = (Jn.jr es).length ∧ n ≤ cap ∧ (A = none → cap = 0) ∧ Rd w' A (bv (Jn.jr es)) ∧ n2 = es.length ∧ n2 ≤ cap2 ∧ Jn.Evs w' A2 es ∧ n3 = es.length ∧ Rd w' A3 (iv (Jn.ends es)) ∧ Below w.heap.size w w'

set_option maxRecDepth 100000 in
set_option maxHeartbeats 6400000 in
theorem written_any (A : Option Addr) (n cap : Nat) (l : List Jn.Ev) (hn : n = l.length) (w : World) (hl : Jn.Evs w A l) (hlen : l.length ≤ 30) (hmx : ∀ e ∈ l, e.mix.length ≤ 40) :
    Calls Try.prog 13 #[.slice A n cap] w (RetW w (Jn.kept l)) := by
  obtain ⟨i0, hi, hz0, hz1, hz2⟩ := info_parts info_int
  subst hn
  have HL := Lib.hid hl
  have HMX : Bx (∀ e ∈ l, e.mix.length ≤ 40) := ⟨hmx⟩
  clear hl hmx
  go_enter Try.func13, Try.ntmps13
  go_wp2
  go_loopw [5, 6, 7, 8] (fun b kp en i wr => ∃ (k : Nat) (A1 : Option Addr) (n1 cap1 : Nat) (A2 : Option Addr) (n2 cap2 : Nat) (A3 : Option Addr) (cap3 : Nat) (L : List Jn.Er) (es : List Jn.Ev), k ≤ l.length ∧ n1 ≤ 12000 ∧ n2 ≤ k ∧ b = .slice A1 n1 cap1 ∧ kp = .slice A2 n2 cap2 ∧ en = .slice A3 n2 cap3 ∧ i = .int .i64 (k : Int) ∧
    Bx (es = Jn.kept (l.take k) ∧ n2 = es.length ∧ n1 = (Jn.jr es).length ∧ n1 ≤ cap1 ∧ (A1 = none → cap1 = 0) ∧ L.map (·.1) = es ∧ Jn.GoodR w L) ∧ Rd wr A1 (bv (Jn.jr es)) ∧ wr.ownsRow w.heap.size 35 7 (.slice A2 n2 cap2) n2 (Jn.ecells L) ∧ wr.ownsRow w.heap.size 3 1 (.slice A3 n2 cap3) n2 (iv (Jn.ends es)) ∧ Below w.heap.size w wr) (fun _ _ _ i _ => l.length - (intOf i).toNat)
  case atStart => exact ⟨0, none, 0, 0, none, 0, 0, none, 0, [], [], by omega, by omega, by omega, rfl, rfl, rfl, rfl, ⟨rfl, rfl, rfl, Nat.le_refl _, fun _ => rfl, rfl, Jn.GoodR.nil _⟩, Rd.nil _ _, World.ownsRow_nil _ _ _ _, World.ownsRow_nil _ _ _ _, Below.refl _ _⟩
  case round =>
    obtain ⟨k, A1, n1, cap1, A2, n2, cap2, A3, cap3, L, es, hk, hn1, hn2, rfl, rfl, rfl, rfl, HX, hr1, ho2, ho3, hb⟩ := hrel
    have HR1 := Lib.hid hr1
    have HO2 := Lib.hid ho2
    have HO3 := Lib.hid ho3
    have HB : Bx (Below w.heap.size w wr) := ⟨hb⟩
    have hsz := hb.size
    by_cases hlt : k < l.length
    · have hki : (k : Int) < (l.length : Int) := by omega
      obtain ⟨b0, off, hA, hbl, ha⟩ := HL.out k _ (List.getElem?_eq_getElem hlt)
      subst hA
      have hks : Jn.kept (l.take (k + 1)) = Jn.put1 es l[k] := by rw [Jn.kept_snoc l k hlt, ← HX.out.1]
      have hmE := HMX.out _ (List.getElem_mem hlt)
      generalize l[k] = ee at ha hks hmE
      obtain ⟨x0, x1, x2, x3, x4, x5, m⟩ := ee
      obtain ⟨A9, n9, cap9, y0, y1, y2, y3, y4, y5, y6, hn9, hc9, hr9⟩ := ha
      simp only at y0 y1 y2 y3 y4 y5 hn9 hr9 hmE
      have HKS : Bx (Jn.kept (l.take (k + 1)) = Jn.put1 es ⟨x0, x1, x2, x3, x4, x5, m⟩) := ⟨hks⟩
      have HK : Bx (∀ wx, Below w.heap.size w wx → wx.cell? ⟨b0, off + k * 7, none⟩ = some (.int .i64 x0) ∧ wx.cell? ⟨b0, off + k * 7 + 1, none⟩ = some (.int .i64 x1) ∧ wx.cell? ⟨b0, off + k * 7 + 2, none⟩ = some (.int .i64 x2) ∧ wx.cell? ⟨b0, off + k * 7 + 3, none⟩ = some (.int .i64 x3) ∧ wx.cell? ⟨b0, off + k * 7 + 4, none⟩ = some (.int .i64 x4) ∧ wx.cell? ⟨b0, off + k * 7 + 5, none⟩ = some (.int .i64 x5) ∧ wx.cell? ⟨b0, off + k * 7 + 6, none⟩ = some (.slice A9 n9 cap9)) := ⟨fun wx hw => by
        have hc : ∀ j, wx.cell? ⟨b0, j, none⟩ = w.cell? ⟨b0, j, none⟩ := fun j => hw.cell (p := ⟨b0, j, none⟩) hbl
        exact ⟨(hc _).trans y0, (hc _).trans y1, (hc _).trans y2, (hc _).trans y3, (hc _).trans y4, (hc _).trans y5, (hc _).trans y6⟩⟩
      have HY : Bx (n9 = m.length ∧ (A9 = none → cap9 = 0) ∧ Rd w A9 (iv m)) := ⟨hn9, hc9, hr9⟩
      have HAP := Lib.hid (fun nq : Nat => append_own A1 n1 cap1 (Jn.jr es) HX.out.2.2.1 HX.out.2.2.2.2.1 ⟨x0, x1, x2, x3, x4, x5, m⟩ A9 n9 cap9 hn9 (wr.drewN nq) (HR1.out.to (below_drewN (Below.refl _ _) nq)) (hr9.to (below_drewN HB.out nq)) (by show m.length ≤ _; omega) (by omega))
      unfold Jn.Ev.val at HAP
      simp only at HAP
      obtain ⟨c0, c1, c2, c3, c4, c5, c6⟩ := HK.out wr hb
      clear hks hr1 ho2 ho3 hb y0 y1 y2 y3 y4 y5 y6 hn9 hc9 hr9 hbl
      by_cases hn0 : n2 = 0
      · have HTT : Bx (es = [] ∨ Jn.lastAt 0 es ≤ x1) := ⟨.inl (List.eq_nil_of_length_eq_zero (by rw [← HX.out.2.1]; exact hn0))⟩
        subst hn0
        by_cases hc : Jn.check ⟨x0, x1, x2, x3, x4, x5, m⟩ = 0
        · have HST : Bx (Jn.kept (l.take (k + 1)) = es ++ [⟨x0, x1, x2, x3, x4, x5, m⟩]) := ⟨by rw [HKS.out, Jn.put1_ok hc HTT.out]⟩
          have happ : Jn.app (Jn.jr es) ⟨x0, x1, x2, x3, x4, x5, m⟩ = (Jn.jr es ++ Cr.frame (Jn.bytes ⟨x0, x1, x2, x3, x4, x5, m⟩), 0) := by unfold Jn.app; rw [if_neg (by omega)]
          rw [happ] at HAP
          have HJR : Bx (Jn.jr es ++ Cr.frame (Jn.bytes ⟨x0, x1, x2, x3, x4, x5, m⟩) = Jn.jr (es ++ [⟨x0, x1, x2, x3, x4, x5, m⟩])) := ⟨by rw [Jn.jr_append, Jn.jr_one]⟩
          rw [HJR.out] at HAP
          have HJL : Bx ((Jn.jr (es ++ [⟨x0, x1, x2, x3, x4, x5, m⟩])).length ≤ 400 * (0 + 1)) := ⟨by
            have h1 := Jn.jr_le (es ++ [⟨x0, x1, x2, x3, x4, x5, m⟩]) (by rw [← HST.out]; exact (Jn.kept_up _).all)
            have h2 := HX.out.2.1
            rw [List.length_append, List.length_singleton, ← h2] at h1
            exact h1⟩
          clear happ hc HTT
          go_upto_region 7 with fail
          go_quiet (fail)
          go_wp2_with fail
          refine (HAP.out _).mono ?_
          rintro e w1 ⟨A4, n4, cap4, rfl, hn4, hcap4, hc4, hr4, hf4, hb4⟩
          simp only at hn4 hr4
          have hb41 : Below wr.heap.size wr w1 := (below_drewN (Below.refl _ _) _).trans hb4
          have HF4 : Bx (∀ a, A4 = some a → wr.heap.size ≤ a.block) := ⟨hf4⟩
          have HB4 : Bx (Below w.heap.size w w1) := ⟨on HB.out hb41⟩
          have HBA : Bx (Below wr.heap.size wr (w1.alloc (.cells #[.int .i64 x0, .int .i64 x1, .int .i64 x2, .int .i64 x3, .int .i64 x4, .int .i64 x5, .slice A9 n9 cap9] 35))) := ⟨on hb41 (below_new w1 _)⟩
          have HOW := Lib.hid (own7_kept HO2.out HBA.out)
          have HEW := Lib.hid (own_kept HO3.out HBA.out)
          have HRW := Lib.hid (hr4.to (below_new w1 (.cells #[.int .i64 x0, .int .i64 x1, .int .i64 x2, .int .i64 x3, .int .i64 x4, .int .i64 x5, .slice A9 n9 cap9] 35)))
          have HNW := Lib.hid (new7 w1 (⟨x0, x1, x2, x3, x4, x5, m⟩, A9, n9, cap9) 35 w1.heap.size rfl)
          have HBS : Bx (w.heap.size ≤ (w1.alloc (.cells #[.int .i64 x0, .int .i64 x1, .int .i64 x2, .int .i64 x3, .int .i64 x4, .int .i64 x5, .slice A9 n9 cap9] 35)).heap.size) := ⟨by have := HB4.out.size; simp; omega⟩
          have HBW : Bx (Below w.heap.size w (w1.alloc (.cells #[.int .i64 x0, .int .i64 x1, .int .i64 x2, .int .i64 x3, .int .i64 x4, .int .i64 x5, .slice A9 n9 cap9] 35))) := ⟨on HB4.out (below_new w1 _)⟩
          have hn4l : n4 ≤ 12000 := by have := HJL.out; omega
          have HN4 : Bx (n4 = (Jn.jr (es ++ [⟨x0, x1, x2, x3, x4, x5, m⟩])).length ∧ n4 ≤ cap4 ∧ (A4 = none → cap4 = 0)) := ⟨hn4, hcap4, hc4⟩
          have HEN : Bx (iv (Jn.ends es) ++ [.int .i64 (n4 : Int)] = iv (Jn.ends (es ++ [⟨x0, x1, x2, x3, x4, x5, m⟩]))) := ⟨by rw [Jn.ends_snoc, iv_append, hn4]; rfl⟩
          have HE5F : Bx (∀ w5, ((w1.alloc (.cells #[.int .i64 x0, .int .i64 x1, .int .i64 x2, .int .i64 x3, .int .i64 x4, .int .i64 x5, .slice A9 n9 cap9] 35))).grownBy w5 (Value.slice A2 0 cap2).ownBlock → w5.ownsRow w.heap.size 3 1 (.slice A3 0 cap3) 0 (iv (Jn.ends es))) := ⟨fun w5 hg => own_apartN HEW.out HOW.out (by decide) hg⟩
          have HR5F : Bx (∀ w5, ((w1.alloc (.cells #[.int .i64 x0, .int .i64 x1, .int .i64 x2, .int .i64 x3, .int .i64 x4, .int .i64 x5, .slice A9 n9 cap9] 35))).grownBy w5 (Value.slice A2 0 cap2).ownBlock → Rd w5 A4 (bv (Jn.jr (es ++ [⟨x0, x1, x2, x3, x4, x5, m⟩])))) := ⟨fun w5 hg => HRW.out.grown hg (fun a ha => own_block HO2.out (HF4.out a ha))⟩
          have HX1 : Bx (0 ≤ 100000000) := ⟨by omega⟩
          clear hb41 hb4 hf4 hr4 hc4 hcap4 hn4
          obtain ⟨c0, c1, c2, c3, c4, c5, c6⟩ := HK.out w1 HB4.out
          go_wp2_with (first
            | (at_builtin; refine wpList_appER rfl _ _ rfl w.heap.size _ 0 L rfl HOW.out ⟨w1.heap.size, 0, none⟩ 1 (⟨x0, x1, x2, x3, x4, x5, m⟩, A9, n9, cap9) rfl HNW.out HX1.out HBS.out ?_; intro A5 cap5 w5 hown5 hgr5 hb5; have HO5 := Lib.hid hown5; have HE5 := Lib.hid (HE5F.out w5 hgr5); have HR5 := Lib.hid (HR5F.out w5 hgr5); have HB5 : Bx (Below w.heap.size w w5) := ⟨HBW.out.trans hb5⟩; clear hown5 hgr5 hb5)
            | (at_builtin; refine wpList_app1g rfl _ _ 26 rfl w.heap.size 3 i0 (.int .i64 0) 8 Try.underlying26 hi hz0 hz1 hz2 rfl _ 0 _ rfl (own_kept HE5.out (below_new w5 _)) ⟨w5.heap.size, 0, none⟩ 1 (.int .i64 (n4 : Int)) rfl (new0 w5 _ _) rfl (by unfold maxLen; omega) (by omega) (by have := HB5.out.size; simp; omega) ?_; intro A6 cap6 w6 hown6 hgr6 hb6; have HE6 := Lib.hid hown6; have HO6 := Lib.hid (own_apartN (own7_kept HO5.out (below_new w5 _)) (own_kept HE5.out (below_new w5 _)) (by decide) hgr6); have HR6 := Lib.hid ((HR5.out.to (below_new w5 _)).grown hgr6 (fun a ha => own_block HO3.out (HF4.out a ha))); have HB6 : Bx (Below w.heap.size w w6) := ⟨(on HB5.out (below_new w5 _)).trans hb6⟩; clear hown6 hgr6 hb6))
          have HE7 := HE6.out
          rw [HEN.out] at HE7
          have HXX : Bx (es ++ [⟨x0, x1, x2, x3, x4, x5, m⟩] = Jn.kept (l.take (k + 1)) ∧ 0 + 1 = (es ++ [(⟨x0, x1, x2, x3, x4, x5, m⟩ : Jn.Ev)]).length ∧ n4 = (Jn.jr (es ++ [⟨x0, x1, x2, x3, x4, x5, m⟩])).length ∧ n4 ≤ cap4 ∧ (A4 = none → cap4 = 0) ∧ (L ++ [((⟨x0, x1, x2, x3, x4, x5, m⟩, A9, n9, cap9) : Jn.Er)]).map (·.1) = es ++ [⟨x0, x1, x2, x3, x4, x5, m⟩] ∧ Jn.GoodR w (L ++ [(⟨x0, x1, x2, x3, x4, x5, m⟩, A9, n9, cap9)])) :=
            ⟨HST.out.symm, by rw [List.length_append, ← HX.out.2.1]; rfl, HN4.out.1, HN4.out.2.1, HN4.out.2.2, by rw [List.map_append, HX.out.2.2.2.2.2.1]; rfl, HX.out.2.2.2.2.2.2.snoc HY.out⟩
          exact ⟨⟨k + 1, A4, n4, cap4, A5, 0 + 1, cap5, A6, cap6, L ++ [(⟨x0, x1, x2, x3, x4, x5, m⟩, A9, n9, cap9)], es ++ [⟨x0, x1, x2, x3, x4, x5, m⟩], by omega, hn4l, by omega, rfl, rfl, rfl, by go_num, HXX, HR6.out, HO6.out, HE7, HB6.out⟩, by simp [intOf]; omega⟩
        · have HST : Bx (Jn.kept (l.take (k + 1)) = es) := ⟨by rw [HKS.out, Jn.put1_bad hc]⟩
          have happ : Jn.app (Jn.jr es) ⟨x0, x1, x2, x3, x4, x5, m⟩ = ([], Jn.check ⟨x0, x1, x2, x3, x4, x5, m⟩) := by unfold Jn.app; rw [if_pos hc]
          rw [happ] at HAP
          generalize Jn.check ⟨x0, x1, x2, x3, x4, x5, m⟩ = cc at hc HAP happ
          have hcf : (cc == 0) = false := beq_f hc
          have hcn : (cc != 0) = true := by simp [hc]
          clear happ hc HTT
          go_upto_region 7 with fail
          go_quiet (fail)
          go_wp2_with fail
          refine (HAP.out _).mono ?_
          rintro e w1 ⟨A4, n4, cap4, rfl, hn4, hcap4, hc4, hr4, hf4, hb4⟩
          have hb41 : Below wr.heap.size wr w1 := (below_drewN (Below.refl _ _) _).trans hb4
          have HB4 : Bx (Below w.heap.size w w1) := ⟨on HB.out hb41⟩
          have HRX := Lib.hid (HR1.out.to hb41)
          have HOX := Lib.hid (own7_kept HO2.out hb41)
          have HEX := Lib.hid (own_kept HO3.out hb41)
          have HXX : Bx (es = Jn.kept (l.take (k + 1)) ∧ 0 = es.length ∧ n1 = (Jn.jr es).length ∧ n1 ≤ cap1 ∧ (A1 = none → cap1 = 0) ∧ L.map (·.1) = es ∧ Jn.GoodR w L) := ⟨HST.out.symm, HX.out.2⟩
          clear hb41 hb4 hf4 hr4 hc4 hcap4 hn4
          go_wp2
          exact ⟨⟨k + 1, A1, n1, cap1, A2, 0, cap2, A3, cap3, L, es, by omega, hn1, by omega, rfl, rfl, rfl, by go_num, HXX, HRX.out, HOX.out, HEX.out, HB4.out⟩, by simp [intOf]; omega⟩
      · obtain ⟨mm, hmm⟩ : ∃ mm, n2 = mm + 1 := ⟨n2 - 1, by omega⟩
        obtain ⟨xl, hxe, hxl⟩ := Jn.last_erW HX.out.2.2.2.2.2.1 (by rw [← HX.out.2.1]; omega)
        rw [← HX.out.2.1, hmm, Nat.add_sub_cancel] at hxl
        have hskip : Bx (x1 < Jn.lastAt 0 es → Jn.kept (l.take (k + 1)) = es) := ⟨fun h => by rw [HKS.out, Jn.put1_skip h]⟩
        have hTT2 : Bx (¬ x1 < Jn.lastAt 0 es → es = [] ∨ Jn.lastAt 0 es ≤ x1) := ⟨fun h => .inr (by omega)⟩
        subst hmm
        obtain ⟨g, hA2, _, hgl⟩ := own7_someW HO2.out (by omega)
        subst hA2
        have hcell : wr.cell? ⟨g, mm * 7 + 1, none⟩ = some (.int .i64 (Jn.lastAt 0 es)) := by
          have h1 := World.ownsRow.cellAt HO2.out (mm * 7 + 1) (by omega)
          rw [h1, Jn.ecells_at L mm xl hxl 1 (.int .i64 (Jn.lastAt 0 es)) (by rw [← hxe]; rfl)]
        obtain ⟨t2, ht2⟩ : ∃ t2, t2 = Jn.lastAt 0 es := ⟨_, rfl⟩
        rw [← ht2] at hskip hTT2 hcell
        have hmx : ((mm + 1 : Nat) : Int) - 1 = (mm : Int) := by omega
        have hmp : (0 : Int) < ((mm + 1 : Nat) : Int) := by omega
        have hml : (mm : Int) < ((mm + 1 : Nat) : Int) := by omega
        have hml2 : (mm : Int) < (mm : Int) + 1 := by omega
        have hml3 : mm < mm + 1 := by omega
        have hm0 : (0 : Int) ≤ (mm : Int) := by omega
        have hmw : IntKind.i64.wrap (mm : Int) = (mm : Int) := by rw [IntKind.wrap_i64]; omega
        have HT2 : Bx (t2 = Jn.lastAt 0 es) := ⟨ht2⟩
        clear hn0 hxe hxl ht2
        by_cases hlt2 : x1 < t2
        · have HST : Bx (Jn.kept (l.take (k + 1)) = es) := ⟨hskip.out hlt2⟩
          have HXX : Bx (es = Jn.kept (l.take (k + 1)) ∧ mm + 1 = es.length ∧ n1 = (Jn.jr es).length ∧ n1 ≤ cap1 ∧ (A1 = none → cap1 = 0) ∧ L.map (·.1) = es ∧ Jn.GoodR w L) := ⟨HST.out.symm, HX.out.2⟩
          have HDQ : Bx (∀ nq : Nat, Rd (wr.drewN nq) A1 (bv (Jn.jr es)) ∧ (wr.drewN nq).ownsRow w.heap.size 35 7 (.slice (some ⟨g, 0, none⟩) (mm + 1) cap2) (mm + 1) (Jn.ecells L) ∧ (wr.drewN nq).ownsRow w.heap.size 3 1 (.slice A3 (mm + 1) cap3) (mm + 1) (iv (Jn.ends es)) ∧ Below w.heap.size w (wr.drewN nq)) := ⟨fun nq =>
            ⟨HR1.out.to (below_drewN (Below.refl _ _) nq), own7_kept HO2.out (below_drewN (Below.refl _ _) nq), own_kept HO3.out (below_drewN (Below.refl _ _) nq), below_drewN HB.out nq⟩⟩
          clear hskip hTT2 HAP
          go_upto_region 7 with fail
          go_quiet (fail)
          go_wp2
          exact ⟨⟨k + 1, A1, n1, cap1, some ⟨g, 0, none⟩, mm + 1, cap2, A3, cap3, L, es, by omega, hn1, by omega, rfl, rfl, rfl, by go_num, HXX, (HDQ.out _).1, (HDQ.out _).2.1, (HDQ.out _).2.2.1, (HDQ.out _).2.2.2⟩, by simp [intOf]; omega⟩
        · have HTT : Bx (es = [] ∨ Jn.lastAt 0 es ≤ x1) := ⟨by rw [← HT2.out]; exact hTT2.out hlt2⟩
          clear hskip hTT2 HT2
          by_cases hc : Jn.check ⟨x0, x1, x2, x3, x4, x5, m⟩ = 0
          · have HST : Bx (Jn.kept (l.take (k + 1)) = es ++ [⟨x0, x1, x2, x3, x4, x5, m⟩]) := ⟨by rw [HKS.out, Jn.put1_ok hc HTT.out]⟩
            have happ : Jn.app (Jn.jr es) ⟨x0, x1, x2, x3, x4, x5, m⟩ = (Jn.jr es ++ Cr.frame (Jn.bytes ⟨x0, x1, x2, x3, x4, x5, m⟩), 0) := by unfold Jn.app; rw [if_neg (by omega)]
            rw [happ] at HAP
            have HJR : Bx (Jn.jr es ++ Cr.frame (Jn.bytes ⟨x0, x1, x2, x3, x4, x5, m⟩) = Jn.jr (es ++ [⟨x0, x1, x2, x3, x4, x5, m⟩])) := ⟨by rw [Jn.jr_append, Jn.jr_one]⟩
            rw [HJR.out] at HAP
            have HJL : Bx ((Jn.jr (es ++ [⟨x0, x1, x2, x3, x4, x5, m⟩])).length ≤ 400 * ((mm + 1) + 1)) := ⟨by
              have h1 := Jn.jr_le (es ++ [⟨x0, x1, x2, x3, x4, x5, m⟩]) (by rw [← HST.out]; exact (Jn.kept_up _).all)
              have h2 := HX.out.2.1
              rw [List.length_append, List.length_singleton, ← h2] at h1
              exact h1⟩
            clear happ hc HTT
            go_upto_region 7 with fail
            go_quiet (fail)
            go_wp2_with fail
            refine (HAP.out _).mono ?_
            rintro e w1 ⟨A4, n4, cap4, rfl, hn4, hcap4, hc4, hr4, hf4, hb4⟩
            simp only at hn4 hr4
            have hb41 : Below wr.heap.size wr w1 := (below_drewN (Below.refl _ _) _).trans hb4
            have HF4 : Bx (∀ a, A4 = some a → wr.heap.size ≤ a.block) := ⟨hf4⟩
            have HB4 : Bx (Below w.heap.size w w1) := ⟨on HB.out hb41⟩
            have HBA : Bx (Below wr.heap.size wr (w1.alloc (.cells #[.int .i64 x0, .int .i64 x1, .int .i64 x2, .int .i64 x3, .int .i64 x4, .int .i64 x5, .slice A9 n9 cap9] 35))) := ⟨on hb41 (below_new w1 _)⟩
            have HOW := Lib.hid (own7_kept HO2.out HBA.out)
            have HEW := Lib.hid (own_kept HO3.out HBA.out)
            have HRW := Lib.hid (hr4.to (below_new w1 (.cells #[.int .i64 x0, .int .i64 x1, .int .i64 x2, .int .i64 x3, .int .i64 x4, .int .i64 x5, .slice A9 n9 cap9] 35)))
            have HNW := Lib.hid (new7 w1 (⟨x0, x1, x2, x3, x4, x5, m⟩, A9, n9, cap9) 35 w1.heap.size rfl)
            have HBS : Bx (w.heap.size ≤ (w1.alloc (.cells #[.int .i64 x0, .int .i64 x1, .int .i64 x2, .int .i64 x3, .int .i64 x4, .int .i64 x5, .slice A9 n9 cap9] 35)).heap.size) := ⟨by have := HB4.out.size; simp; omega⟩
            have HBW : Bx (Below w.heap.size w (w1.alloc (.cells #[.int .i64 x0, .int .i64 x1, .int .i64 x2, .int .i64 x3, .int .i64 x4, .int .i64 x5, .slice A9 n9 cap9] 35))) := ⟨on HB4.out (below_new w1 _)⟩
            have hn4l : n4 ≤ 12000 := by have := HJL.out; omega
            have HN4 : Bx (n4 = (Jn.jr (es ++ [⟨x0, x1, x2, x3, x4, x5, m⟩])).length ∧ n4 ≤ cap4 ∧ (A4 = none → cap4 = 0)) := ⟨hn4, hcap4, hc4⟩
            have HEN : Bx (iv (Jn.ends es) ++ [.int .i64 (n4 : Int)] = iv (Jn.ends (es ++ [⟨x0, x1, x2, x3, x4, x5, m⟩]))) := ⟨by rw [Jn.ends_snoc, iv_append, hn4]; rfl⟩
            have HE5F : Bx (∀ w5, ((w1.alloc (.cells #[.int .i64 x0, .int .i64 x1, .int .i64 x2, .int .i64 x3, .int .i64 x4, .int .i64 x5, .slice A9 n9 cap9] 35))).grownBy w5 (Value.slice (some ⟨g, 0, none⟩) (mm + 1) cap2).ownBlock → w5.ownsRow w.heap.size 3 1 (.slice A3 (mm + 1) cap3) (mm + 1) (iv (Jn.ends es))) := ⟨fun w5 hg => own_apartN HEW.out HOW.out (by decide) hg⟩
            have HR5F : Bx (∀ w5, ((w1.alloc (.cells #[.int .i64 x0, .int .i64 x1, .int .i64 x2, .int .i64 x3, .int .i64 x4, .int .i64 x5, .slice A9 n9 cap9] 35))).grownBy w5 (Value.slice (some ⟨g, 0, none⟩) (mm + 1) cap2).ownBlock → Rd w5 A4 (bv (Jn.jr (es ++ [⟨x0, x1, x2, x3, x4, x5, m⟩])))) := ⟨fun w5 hg => HRW.out.grown hg (fun a ha => own_block HO2.out (HF4.out a ha))⟩
            have HX1 : Bx ((mm + 1) ≤ 100000000) := ⟨by omega⟩
            clear hb41 hb4 hf4 hr4 hc4 hcap4 hn4
            obtain ⟨c0, c1, c2, c3, c4, c5, c6⟩ := HK.out w1 HB4.out
            go_wp2_with (first
              | (at_builtin; refine wpList_appER rfl _ _ rfl w.heap.size _ (mm + 1) L rfl HOW.out ⟨w1.heap.size, 0, none⟩ 1 (⟨x0, x1, x2, x3, x4, x5, m⟩, A9, n9, cap9) rfl HNW.out HX1.out HBS.out ?_; intro A5 cap5 w5 hown5 hgr5 hb5; have HO5 := Lib.hid hown5; have HE5 := Lib.hid (HE5F.out w5 hgr5); have HR5 := Lib.hid (HR5F.out w5 hgr5); have HB5 : Bx (Below w.heap.size w w5) := ⟨HBW.out.trans hb5⟩; clear hown5 hgr5 hb5)
              | (at_builtin; refine wpList_app1g rfl _ _ 26 rfl w.heap.size 3 i0 (.int .i64 0) 8 Try.underlying26 hi hz0 hz1 hz2 rfl _ (mm + 1) _ rfl (own_kept HE5.out (below_new w5 _)) ⟨w5.heap.size, 0, none⟩ 1 (.int .i64 (n4 : Int)) rfl (new0 w5 _ _) rfl (by unfold maxLen; omega) (by omega) (by have := HB5.out.size; simp; omega) ?_; intro A6 cap6 w6 hown6 hgr6 hb6; have HE6 := Lib.hid hown6; have HO6 := Lib.hid (own_apartN (own7_kept HO5.out (below_new w5 _)) (own_kept HE5.out (below_new w5 _)) (by decide) hgr6); have HR6 := Lib.hid ((HR5.out.to (below_new w5 _)).grown hgr6 (fun a ha => own_block HO3.out (HF4.out a ha))); have HB6 : Bx (Below w.heap.size w w6) := ⟨(on HB5.out (below_new w5 _)).trans hb6⟩; clear hown6 hgr6 hb6))
            have HE7 := HE6.out
            rw [HEN.out] at HE7
            have HXX : Bx (es ++ [⟨x0, x1, x2, x3, x4, x5, m⟩] = Jn.kept (l.take (k + 1)) ∧ (mm + 1) + 1 = (es ++ [(⟨x0, x1, x2, x3, x4, x5, m⟩ : Jn.Ev)]).length ∧ n4 = (Jn.jr (es ++ [⟨x0, x1, x2, x3, x4, x5, m⟩])).length ∧ n4 ≤ cap4 ∧ (A4 = none → cap4 = 0) ∧ (L ++ [((⟨x0, x1, x2, x3, x4, x5, m⟩, A9, n9, cap9) : Jn.Er)]).map (·.1) = es ++ [⟨x0, x1, x2, x3, x4, x5, m⟩] ∧ Jn.GoodR w (L ++ [(⟨x0, x1, x2, x3, x4, x5, m⟩, A9, n9, cap9)])) :=
              ⟨HST.out.symm, by rw [List.length_append, ← HX.out.2.1]; rfl, HN4.out.1, HN4.out.2.1, HN4.out.2.2, by rw [List.map_append, HX.out.2.2.2.2.2.1]; rfl, HX.out.2.2.2.2.2.2.snoc HY.out⟩
            exact ⟨⟨k + 1, A4, n4, cap4, A5, (mm + 1) + 1, cap5, A6, cap6, L ++ [(⟨x0, x1, x2, x3, x4, x5, m⟩, A9, n9, cap9)], es ++ [⟨x0, x1, x2, x3, x4, x5, m⟩], by omega, hn4l, by omega, rfl, rfl, rfl, by go_num, HXX, HR6.out, HO6.out, HE7, HB6.out⟩, by simp [intOf]; omega⟩
          · have HST : Bx (Jn.kept (l.take (k + 1)) = es) := ⟨by rw [HKS.out, Jn.put1_bad hc]⟩
            have happ : Jn.app (Jn.jr es) ⟨x0, x1, x2, x3, x4, x5, m⟩ = ([], Jn.check ⟨x0, x1, x2, x3, x4, x5, m⟩) := by unfold Jn.app; rw [if_pos hc]
            rw [happ] at HAP
            generalize Jn.check ⟨x0, x1, x2, x3, x4, x5, m⟩ = cc at hc HAP happ
            have hcf : (cc == 0) = false := beq_f hc
            have hcn : (cc != 0) = true := by simp [hc]
            clear happ hc HTT
            go_upto_region 7 with fail
            go_quiet (fail)
            go_wp2_with fail
            refine (HAP.out _).mono ?_
            rintro e w1 ⟨A4, n4, cap4, rfl, hn4, hcap4, hc4, hr4, hf4, hb4⟩
            have hb41 : Below wr.heap.size wr w1 := (below_drewN (Below.refl _ _) _).trans hb4
            have HB4 : Bx (Below w.heap.size w w1) := ⟨on HB.out hb41⟩
            have HRX := Lib.hid (HR1.out.to hb41)
            have HOX := Lib.hid (own7_kept HO2.out hb41)
            have HEX := Lib.hid (own_kept HO3.out hb41)
            have HXX : Bx (es = Jn.kept (l.take (k + 1)) ∧ (mm + 1) = es.length ∧ n1 = (Jn.jr es).length ∧ n1 ≤ cap1 ∧ (A1 = none → cap1 = 0) ∧ L.map (·.1) = es ∧ Jn.GoodR w L) := ⟨HST.out.symm, HX.out.2⟩
            clear hb41 hb4 hf4 hr4 hc4 hcap4 hn4
            go_wp2
            exact ⟨⟨k + 1, A1, n1, cap1, (some ⟨g, 0, none⟩), (mm + 1), cap2, A3, cap3, L, es, by omega, hn1, by omega, rfl, rfl, rfl, by go_num, HXX, HRX.out, HOX.out, HEX.out, HB4.out⟩, by simp [intOf]; omega⟩
    · have hke : k = l.length := by omega
      subst hke
      have hki : ¬ (l.length : Int) < (l.length : Int) := by omega
      have HES : Bx (es = Jn.kept l) := ⟨by have := HX.out.1; rwa [List.take_length] at this⟩
      clear hr1 ho2 ho3 hb
      go_wp2
      refine bodyPost_ret (v := .tuple #[.slice A1 n1 cap1, .slice A2 n2 cap2, .slice A3 n2 cap3]) (by simp [results, Try.results13, go_sem]) rfl ?_
      rw [← HES.out]
      refine ⟨A1, n1, cap1, A2, n2, cap2, A3, n2, cap3, rfl, HX.out.2.2.1, HX.out.2.2.2.1, HX.out.2.2.2.2.1, HR1.out, HX.out.2.1, own7_cap HO2.out, ?_, HX.out.2.1, own_rd HO3.out, HB.out⟩
      have := Jn.own7_evsR HO2.out (HX.out.2.2.2.2.2.2.to HB.out)
      rwa [HX.out.2.2.2.2.2.1] at this
end Go.Proofs.Ytcpdfgckfefboaa
