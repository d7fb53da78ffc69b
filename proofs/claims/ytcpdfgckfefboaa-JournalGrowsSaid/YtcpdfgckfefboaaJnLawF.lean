/- The walk of the law JournalGrows. -/
import Derived.Test.YtcpdfgckfefboaaJnArgs
import Derived.Test.YtcpdfgckfefboaaJnGrA
import Derived.Deep.RegionHeldLaw
namespace Go.Proofs.Ytcpdfgckfefboaa
open Go.RowKit
namespace Jn
theorem Good.r {w : World} {L : List Er} (h : Good w L) : GoodR w L := fun x hx => by
  obtain ⟨h1, h2, h3, _⟩ := h x hx
  exact ⟨h1, h2, h3⟩
end Jn

set_option maxRecDepth 100000 in
set_option maxHeartbeats 12800000 in
theorem grows_walk (A0 : Option Addr) (m cap0 : Nat) (l : List UInt8) (X : Jn.Ev) (A : Option Addr) (n cap : Nat) (w : World) (h0 : BytesIn w A0 m cap0 l) (h : EvIn w X A n cap) :
    Calls Try.prog 4 #[.slice A0 m cap0, X.val A n cap] w fun e w' => e = .returned (.bool true) ∧ Below w.heap.size w w' := by
  by_cases hnm : m ≤ 1000 ∧ n ≤ 40
  · obtain ⟨hml, hn⟩ := hnm
    have hm' : ¬ (1000 : Int) < (m : Int) := by omega
    have hn' : ¬ (40 : Int) < (n : Int) := by omega
    have hmx : X.mix.length ≤ 40 := by rw [← h.len]; exact hn
    have H1 := Lib.hid (fun w' (hb : Below w.heap.size w w') => recover_any A0 m cap0 l h0.len h0.room w' (h0.reads.to hb) (by rw [← h0.len]; omega))
    obtain ⟨hup, hp, htk, hpl⟩ := Jn.recover_form l
    rcases hre : Jn.recover l with ⟨es, p⟩
    rw [hre] at H1 hup hp htk hpl
    simp only at hup hp htk hpl
    have hesl : es.length ≤ 1000 := by have := Jn.jr_ge es; rw [← h0.len] at hpl; omega
    have hpm : p ≤ m := by rw [h0.len]; exact hpl
    have hpc : p ≤ cap0 := Nat.le_trans hpm h0.room
    have hpi : (p : Int) ≤ (m : Int) := by omega
    have hpci : (p : Int) ≤ (cap0 : Int) := by omega
    have H2 := Lib.hid (fun w' (hb : Below w.heap.size w w') => append_any A0 p cap0 (Jn.jr es) hp h0.nil X A n cap h.len w' (by rw [← htk, bv_take]; exact (h0.reads.to hb).take p) (h.reads.to hb) (by omega) (by omega))
    have HUP : Bx (Jn.Up 0 es) := ⟨hup⟩
    have HP : Bx (p = (Jn.jr es).length) := ⟨hp⟩
    have HMX0 : Bx (∀ e ∈ es, e.mix.length ≤ 16) := ⟨fun e he => (Jn.check_ok (hup.all e he)).2.2.2.2.2.2.1⟩
    have HLE : Bx (n = X.mix.length) := ⟨h.len⟩
    have HNL : Bx (A = none → cap = 0) := ⟨h.nil⟩
    have HRE : Bx (∀ w', Below w.heap.size w w' → Rd w' A (iv X.mix)) := ⟨fun w' hb => h.reads.to hb⟩
    have HESL : Bx (es.length ≤ 1000) := ⟨hesl⟩
    obtain ⟨x0, x1, x2, x3, x4, x5, mix⟩ := X
    unfold Jn.Ev.val at H2 ⊢
    simp only at H2 hmx HLE HRE ⊢
    have HB0 : Bx (Below w.heap.size w (w.alloc (.cells #[.int .i64 x0, .int .i64 x1, .int .i64 x2, .int .i64 x3, .int .i64 x4, .int .i64 x5, .slice A n cap] 35))) := ⟨below_new w _⟩
    have HV0 : Bx (EvAt (w.alloc (.cells #[.int .i64 x0, .int .i64 x1, .int .i64 x2, .int .i64 x3, .int .i64 x4, .int .i64 x5, .slice A n cap] 35)) w.heap.size x0 x1 x2 x3 x4 x5 A n cap) := ⟨EvAt.new w x0 x1 x2 x3 x4 x5 A n cap _ _⟩
    clear h h0 hn hre hup hp htk hpl hpc
    go_enter Try.func4, Try.ntmps4
    go_wp2_with fail
    refine (H1.out _ HB0.out).mono ?_
    rintro e w2 ⟨A5, n5, cap5, L5, rfl, hn5, hL5, ho5, hg5, hb5⟩
    simp only at hn5 hL5 ⊢
    have HB2 : Bx (Below w.heap.size w w2) := ⟨on HB0.out hb5⟩
    have HV2 : Bx (EvAt w2 w.heap.size x0 x1 x2 x3 x4 x5 A n cap) := ⟨HV0.out.to hb5⟩
    have hn5l : n5 ≤ 1000 := by rw [hn5]; exact HESL.out
    have HN5 : Bx (n5 = es.length) := ⟨hn5⟩
    have HLL0 : Bx (L5.length = n5) := ⟨by rw [hn5, ← hL5]; simp⟩
    have HLM0 : Bx (L5.map (·.1) = es) := ⟨hL5⟩
    have HO2 := Lib.hid ho5
    have HGD2 : Bx (Jn.GoodR w2 L5) := ⟨hg5.r⟩
    have HK2 : Bx (∀ wx, Below w2.heap.size w2 wx → wx.cell? ⟨w.heap.size, 0, none⟩ = some (.int .i64 x0) ∧ wx.cell? ⟨w.heap.size, 1, none⟩ = some (.int .i64 x1) ∧ wx.cell? ⟨w.heap.size, 2, none⟩ = some (.int .i64 x2) ∧ wx.cell? ⟨w.heap.size, 3, none⟩ = some (.int .i64 x3) ∧ wx.cell? ⟨w.heap.size, 4, none⟩ = some (.int .i64 x4) ∧ wx.cell? ⟨w.heap.size, 5, none⟩ = some (.int .i64 x5) ∧ wx.cell? ⟨w.heap.size, 6, none⟩ = some (.slice A n cap)) := ⟨fun wx hw => by
      obtain ⟨c0, c1, c2, c3, c4, c5, c6, _⟩ := HV2.out.to hw
      exact ⟨c0, c1, c2, c3, c4, c5, c6⟩⟩
    have HBD2 : Bx (Below w2.heap.size w2 w2.drew) := ⟨(Below.refl _ _).drew⟩
    have HAP := Lib.hid (H2.out w2.drew (on HB2.out HBD2.out))
    clear hn5 hL5 ho5 hg5 hb5 H1 H2
    by_cases hc : Jn.check ⟨x0, x1, x2, x3, x4, x5, mix⟩ = 0
    · have happ : Jn.app (Jn.jr es) ⟨x0, x1, x2, x3, x4, x5, mix⟩ = (Jn.jr (es ++ [⟨x0, x1, x2, x3, x4, x5, mix⟩]), 0) := by unfold Jn.app; rw [if_neg (by omega), Jn.jr_append, Jn.jr_one]
      rw [happ] at HAP
      have HRE2F : Bx ((es = [] ∨ Jn.lastAt 0 es ≤ x1) → Jn.recover (Jn.jr (es ++ [⟨x0, x1, x2, x3, x4, x5, mix⟩])) = (es ++ [⟨x0, x1, x2, x3, x4, x5, mix⟩], (Jn.jr (es ++ [⟨x0, x1, x2, x3, x4, x5, mix⟩])).length)) := ⟨fun ht => Jn.recover_jr _ (HUP.out.snoc hc (by
        rcases ht with rfl | ht
        · have := (Jn.check_ok hc).2.1
          unfold Jn.badT at this
          simp only at this
          show (0 : Int) ≤ x1
          omega
        · exact ht))⟩
      have HJL : Bx ((Jn.jr (es ++ [(⟨x0, x1, x2, x3, x4, x5, mix⟩ : Jn.Ev)])).length ≤ p + 400) := ⟨by rw [Jn.jr_append, Jn.jr_one, List.length_append, HP.out]; have := Jn.frame_len hc; omega⟩
      have HMX : Bx (∀ e ∈ es ++ [(⟨x0, x1, x2, x3, x4, x5, mix⟩ : Jn.Ev)], e.mix.length ≤ 40) := ⟨fun e he => by
        rcases List.mem_append.1 he with h1 | h1
        · have := HMX0.out e h1; omega
        · rw [List.mem_singleton.1 h1]; exact hmx⟩
      clear happ hc
      go_upto_region 6 with fail
      go_region_held (fun wx => wx.cell? ⟨w.heap.size, 0, none⟩ = some (.int .i64 x0) ∧ wx.cell? ⟨w.heap.size, 1, none⟩ = some (.int .i64 x1) ∧ wx.cell? ⟨w.heap.size, 2, none⟩ = some (.int .i64 x2) ∧ wx.cell? ⟨w.heap.size, 3, none⟩ = some (.int .i64 x3) ∧ wx.cell? ⟨w.heap.size, 4, none⟩ = some (.int .i64 x4) ∧ wx.cell? ⟨w.heap.size, 5, none⟩ = some (.int .i64 x5) ∧ wx.cell? ⟨w.heap.size, 6, none⟩ = some (.slice A n cap))
        (first | exact HK2.out _ HBD2.out | exact HK2.out _ HBW3.out) (first
        | (go_at_call 16; refine (HAP.out).mono ?_; rintro e w3 ⟨A7, n7, cap7, rfl, hn7, hcap7, hc7, hr7, hb7⟩; have HN7 : Bx (n7 = (Jn.jr (es ++ [(⟨x0, x1, x2, x3, x4, x5, mix⟩ : Jn.Ev)])).length) := ⟨hn7⟩; have HR7 : Bx (Rd w3 A7 (bv (Jn.jr (es ++ [⟨x0, x1, x2, x3, x4, x5, mix⟩])))) := ⟨hr7⟩; have HBW3 : Bx (Below w2.heap.size w2 w3) := ⟨on HBD2.out hb7⟩; clear hn7 hc7 hr7 hb7))
      have HB3 : Bx (Below w.heap.size w w3) := ⟨on HB2.out HBW3.out⟩
      have HV3 : Bx (EvAt w3 w.heap.size x0 x1 x2 x3 x4 x5 A n cap) := ⟨HV2.out.to HBW3.out⟩
      have HO3 := Lib.hid (own7_kept HO2.out HBW3.out)
      have HGD3 : Bx (Jn.GoodR w3 L5) := ⟨HGD2.out.to HBW3.out⟩
      have hn7l : n7 ≤ 1400 := by have := HJL.out; rw [← HN7.out] at this; omega
      have HLM : Bx ((L5 ++ [((⟨x0, x1, x2, x3, x4, x5, mix⟩, A, n, cap) : Jn.Er)]).map (·.1) = es ++ [⟨x0, x1, x2, x3, x4, x5, mix⟩]) := ⟨by rw [List.map_append, HLM0.out]; rfl⟩
      obtain ⟨c0, c1, c2, c3, c4, c5, c6, _⟩ := HV3.out
      clear HK2 HBD2 HAP
      by_cases hn0 : n5 = 0
      · have HRE2 : Bx (Jn.recover (Jn.jr (es ++ [⟨x0, x1, x2, x3, x4, x5, mix⟩])) = (es ++ [⟨x0, x1, x2, x3, x4, x5, mix⟩], (Jn.jr (es ++ [⟨x0, x1, x2, x3, x4, x5, mix⟩])).length)) := ⟨HRE2F.out (.inl (List.eq_nil_of_length_eq_zero (by rw [← HN5.out]; exact hn0)))⟩
        have HL51 : Bx (0 + 1 = (es ++ [(⟨x0, x1, x2, x3, x4, x5, mix⟩ : Jn.Ev)]).length) := ⟨by rw [List.length_append, ← HN5.out, hn0]; rfl⟩
        subst hn0
        have HLL : Bx (L5.length = 0) := ⟨HLL0.out⟩
        clear HRE2F
        have HRQ := Lib.hid (fun nq : Nat => recover_any A7 n7 cap7 (Jn.jr (es ++ [⟨x0, x1, x2, x3, x4, x5, mix⟩])) HN7.out hcap7 (w3.drewN nq) (HR7.out.to (below_drewN (Below.refl _ _) nq)) (by rw [← HN7.out]; omega))
        rw [HRE2.out] at HRQ
        go_upto_region 7 with fail
        go_quiet (fail)
        go_wp2_with fail
        refine (HRQ.out _).mono ?_
        rintro e w4 ⟨A8, n8, cap8, L8, rfl, hn8, hL8, ho8, hg8, hb8⟩
        simp only at hn8 hL8 ⊢
        have hb84 : Below w3.heap.size w3 w4 := (below_drewN (Below.refl _ _) _).trans hb8
        have HB4 : Bx (Below w.heap.size w w4) := ⟨on HB3.out hb84⟩
        have HV4 : Bx (EvAt w4 w.heap.size x0 x1 x2 x3 x4 x5 A n cap) := ⟨HV3.out.to hb84⟩
        have HE8 : Bx (Jn.Evs w4 A8 (es ++ [⟨x0, x1, x2, x3, x4, x5, mix⟩])) := ⟨by have := Jn.own7_evs ho8 hg8; rwa [hL8] at this⟩
        have HN8 : Bx (n8 = (es ++ [(⟨x0, x1, x2, x3, x4, x5, mix⟩ : Jn.Ev)]).length) := ⟨hn8⟩
        have HO4 := Lib.hid (own7_kept HO3.out hb84)
        have HGR : Bx (Jn.GoodR w4 (L5 ++ [((⟨x0, x1, x2, x3, x4, x5, mix⟩, A, n, cap) : Jn.Er)])) := ⟨(HGD3.out.to hb84).snoc ⟨HLE.out, HNL.out, HRE.out _ HB4.out⟩⟩
        have hlen7 : ((Jn.jr (es ++ [(⟨x0, x1, x2, x3, x4, x5, mix⟩ : Jn.Ev)])).length : Int) = (n7 : Int) := by rw [← HN7.out]
        rw [hlen7]
        have h77 : ((n7 : Int) == (n7 : Int)) = true := by simp
        clear hn8 hL8 ho8 hg8 hb8 hb84 hlen7 HRQ
        have HK : Bx (∀ wx, Below w4.heap.size w4 wx → wx.cell? ⟨w.heap.size, 0, none⟩ = some (.int .i64 x0) ∧ wx.cell? ⟨w.heap.size, 1, none⟩ = some (.int .i64 x1) ∧ wx.cell? ⟨w.heap.size, 2, none⟩ = some (.int .i64 x2) ∧ wx.cell? ⟨w.heap.size, 3, none⟩ = some (.int .i64 x3) ∧ wx.cell? ⟨w.heap.size, 4, none⟩ = some (.int .i64 x4) ∧ wx.cell? ⟨w.heap.size, 5, none⟩ = some (.int .i64 x5) ∧ wx.cell? ⟨w.heap.size, 6, none⟩ = some (.slice A n cap)) := ⟨fun wx hw => by
          obtain ⟨c0, c1, c2, c3, c4, c5, c6, _⟩ := HV4.out.to hw
          exact ⟨c0, c1, c2, c3, c4, c5, c6⟩⟩
        have HBD : Bx (Below w4.heap.size w4 w4.drew) := ⟨(Below.refl _ _).drew⟩
        have BWA : Bx (Below w4.heap.size w4 (w4.drew.alloc (.cells #[] 35))) := ⟨HBD.out.alloc (Nat.le_refl _) _⟩
        have BWM : Bx (Below w4.heap.size w4 (w4.drew.alloc (.cells #[.int .i64 x0, .int .i64 x1, .int .i64 x2, .int .i64 x3, .int .i64 x4, .int .i64 x5, .slice A n cap] 35))) := ⟨HBD.out.alloc (Nat.le_refl _) _⟩
        have BWAM : Bx (Below w4.heap.size w4 ((w4.drew.alloc (.cells #[] 35)).alloc (.cells #[.int .i64 x0, .int .i64 x1, .int .i64 x2, .int .i64 x3, .int .i64 x4, .int .i64 x5, .slice A n cap] 35))) := ⟨BWA.out.alloc BWA.out.size _⟩
        have BWMA : Bx (Below w4.heap.size w4 ((w4.drew.alloc (.cells #[.int .i64 x0, .int .i64 x1, .int .i64 x2, .int .i64 x3, .int .i64 x4, .int .i64 x5, .slice A n cap] 35)).alloc (.cells #[] 35))) := ⟨BWM.out.alloc BWM.out.size _⟩
        have HSM : Bx (w4.heap.size + 1 = (w4.drew.alloc (.cells #[.int .i64 x0, .int .i64 x1, .int .i64 x2, .int .i64 x3, .int .i64 x4, .int .i64 x5, .slice A n cap] 35)).heap.size) := ⟨by show _ = (w4.drew.alloc _).heap.size; rw [heap_alloc_size]; rfl⟩
        have HSA : Bx (w4.heap.size + 1 = (w4.drew.alloc (.cells #[] 35)).heap.size) := ⟨by show _ = (w4.drew.alloc _).heap.size; rw [heap_alloc_size]; rfl⟩
        have OWA := Lib.hid (show (w4.drew.alloc (.cells #[] 35)).ownsRow w4.heap.size 35 7 (.slice (some ⟨w4.heap.size, 0, none⟩) 0 0) 0 (Jn.ecells []) from World.ownsRow_lit (base := w4.heap.size) (e := 35) (size := 7) w4.drew #[] 0 (Nat.le_refl _) (by unfold maxLen; omega) rfl)
        have OWAM := Lib.hid (OWA.out.alloc (.cells #[.int .i64 x0, .int .i64 x1, .int .i64 x2, .int .i64 x3, .int .i64 x4, .int .i64 x5, .slice A n cap] 35))
        have OWMA := Lib.hid (show ((w4.drew.alloc (.cells #[.int .i64 x0, .int .i64 x1, .int .i64 x2, .int .i64 x3, .int .i64 x4, .int .i64 x5, .slice A n cap] 35)).alloc (.cells #[] 35)).ownsRow w4.heap.size 35 7 (.slice (some ⟨w4.heap.size + 1, 0, none⟩) 0 0) 0 (Jn.ecells []) by
          rw [HSM.out]
          exact World.ownsRow_lit (base := w4.heap.size) (e := 35) (size := 7) (w4.drew.alloc (.cells #[.int .i64 x0, .int .i64 x1, .int .i64 x2, .int .i64 x3, .int .i64 x4, .int .i64 x5, .slice A n cap] 35)) #[] 0 BWM.out.size (by unfold maxLen; omega) rfl)
        have CMA := Lib.hid (show Rd ((w4.drew.alloc (.cells #[.int .i64 x0, .int .i64 x1, .int .i64 x2, .int .i64 x3, .int .i64 x4, .int .i64 x5, .slice A n cap] 35)).alloc (.cells #[] 35)) (some ⟨w4.heap.size, 0, none⟩) (Jn.ecells [((⟨x0, x1, x2, x3, x4, x5, mix⟩, A, n, cap) : Jn.Er)]) from (lit_rdm w4.drew w4.heap.size rfl (Jn.ecells [((⟨x0, x1, x2, x3, x4, x5, mix⟩, A, n, cap) : Jn.Er)]) 35 _).to (below_new _ _))
        have CAM := Lib.hid (show Rd ((w4.drew.alloc (.cells #[] 35)).alloc (.cells #[.int .i64 x0, .int .i64 x1, .int .i64 x2, .int .i64 x3, .int .i64 x4, .int .i64 x5, .slice A n cap] 35)) (some ⟨w4.heap.size + 1, 0, none⟩) (Jn.ecells [((⟨x0, x1, x2, x3, x4, x5, mix⟩, A, n, cap) : Jn.Er)]) from lit_rdm (w4.drew.alloc (.cells #[] 35)) (w4.heap.size + 1) HSA.out (Jn.ecells [((⟨x0, x1, x2, x3, x4, x5, mix⟩, A, n, cap) : Jn.Er)]) 35 _)
        have HRW : Bx (∀ wx, Below w4.heap.size w4 wx → Rd wx A5 (Jn.ecells L5)) := ⟨fun wx hw => (own7_rd HO4.out).to hw⟩
        have HC5 : Bx ((A5 : Option Addr) = none → cap5 = 0) := ⟨own7_none HO4.out⟩
        have HSS := Lib.hid (fun (A6 : Option Addr) (cap6 : Nat) (w6 : World) (hw : Below w4.heap.size w4 w6) (ho : w6.ownsRow w4.heap.size 35 7 (.slice A6 (0 + 1) cap6) (0 + 1) (Jn.ecells ([] ++ L5 ++ [((⟨x0, x1, x2, x3, x4, x5, mix⟩, A, n, cap) : Jn.Er)]))) =>
          sames_any A8 n8 cap8 (es ++ [⟨x0, x1, x2, x3, x4, x5, mix⟩]) HN8.out A6 (0 + 1) cap6 (es ++ [⟨x0, x1, x2, x3, x4, x5, mix⟩]) HL51.out w6 (HE8.out.to hw) (by
            have := Jn.own7_evsR (L := [] ++ L5 ++ [((⟨x0, x1, x2, x3, x4, x5, mix⟩, A, n, cap) : Jn.Er)]) ho (HGR.out.to hw)
            rw [List.nil_append, HLM.out] at this
            exact this) (by rw [← HL51.out]; omega) (fun e he => by have := HMX.out e he; omega))
        rw [show decide ((es ++ [(⟨x0, x1, x2, x3, x4, x5, mix⟩ : Jn.Ev)]) = es ++ [⟨x0, x1, x2, x3, x4, x5, mix⟩]) = true by simp] at HSS
        have HX1 : Bx (0 + 0 ≤ 100000000) := ⟨by omega⟩
        have HX2 : Bx (0 + 1 ≤ 100000000) := ⟨by omega⟩
        have HFA : Bx (∀ a : Addr, some ⟨w4.heap.size + 1, 0, none⟩ = some a → some a.block ≠ (Value.slice (some ⟨w4.heap.size, 0, none⟩) 0 0).ownBlock) := ⟨fun a ha h => by
          cases ha
          simp [Value.ownBlock] at h⟩
        have HFM : Bx (∀ a : Addr, some ⟨w4.heap.size, 0, none⟩ = some a → some a.block ≠ (Value.slice (some ⟨w4.heap.size + 1, 0, none⟩) 0 0).ownBlock) := ⟨fun a ha h => by
          cases ha
          simp [Value.ownBlock] at h⟩
        go_upto_region 10 with fail
        go_region_held_law (fun wx => wx.cell? ⟨w.heap.size, 0, none⟩ = some (.int .i64 x0) ∧ wx.cell? ⟨w.heap.size, 1, none⟩ = some (.int .i64 x1) ∧ wx.cell? ⟨w.heap.size, 2, none⟩ = some (.int .i64 x2) ∧ wx.cell? ⟨w.heap.size, 3, none⟩ = some (.int .i64 x3) ∧ wx.cell? ⟨w.heap.size, 4, none⟩ = some (.int .i64 x4) ∧ wx.cell? ⟨w.heap.size, 5, none⟩ = some (.int .i64 x5) ∧ wx.cell? ⟨w.heap.size, 6, none⟩ = some (.slice A n cap))
          (first | exact HK.out _ HBD.out | exact HK.out _ BWA.out | exact HK.out _ BWM.out | exact HK.out _ BWAM.out | exact HK.out _ BWMA.out | exact HK.out _ BW5.out | exact HK.out _ (BW5.out.alloc BW5.out.size _) | exact HK.out _ BW6.out | exact HK.out _ BW7.out | exact HK.out _ BW8.out)
          (first
          | (refine step_appE rfl _ _ rfl w4.heap.size _ 0 [] rfl OWAM.out A5 0 cap5 L5 rfl HLL.out HC5.out (HRW.out _ BWAM.out) HX1.out BWAM.out.size 0 (Nat.zero_add _).symm ?_; intro A5b cap5b w5 hown5 hg5 hb5; have HO5 := Lib.hid hown5; have BW5 : Bx (Below w4.heap.size w4 w5) := ⟨BWAM.out.trans hb5⟩; have CM5 := Lib.hid (CAM.out.grown hg5 HFA.out); clear hown5 hb5 hg5)
          | (refine step_appE rfl _ _ rfl w4.heap.size _ 0 [] rfl OWMA.out A5 0 cap5 L5 rfl HLL.out HC5.out (HRW.out _ BWMA.out) HX1.out BWMA.out.size 0 (Nat.zero_add _).symm ?_; intro A5b cap5b w5 hown5 hg5 hb5; have HO5 := Lib.hid hown5; have BW5 : Bx (Below w4.heap.size w4 w5) := ⟨BWMA.out.trans hb5⟩; have CM5 := Lib.hid (CMA.out.grown hg5 HFM.out); clear hown5 hb5 hg5)
          | (refine step_appE rfl _ _ rfl w4.heap.size _ 0 [] rfl OWA.out A5 0 cap5 L5 rfl HLL.out HC5.out (HRW.out _ BWA.out) HX1.out BWA.out.size 0 (Nat.zero_add _).symm ?_; intro A5b cap5b w5 hown5 hg5 hb5; have HO5 := Lib.hid hown5; have BW5 : Bx (Below w4.heap.size w4 w5) := ⟨BWA.out.trans hb5⟩; clear hown5 hb5 hg5)
          | (refine step_appE rfl _ _ rfl w4.heap.size _ 0 _ rfl (HO5.out.alloc _) (some ⟨w5.heap.size, 0, none⟩) 1 1 [((⟨x0, x1, x2, x3, x4, x5, mix⟩, A, n, cap) : Jn.Er)] rfl rfl (fun h => nomatch h) (lit_rdm w5 w5.heap.size rfl (Jn.ecells [((⟨x0, x1, x2, x3, x4, x5, mix⟩, A, n, cap) : Jn.Er)]) 35 _) HX2.out (Nat.le_trans BW5.out.size (below_new w5 _).size) (0 + 1) rfl ?_; intro A6 cap6 w6 hown6 hg6 hb6; have HO6 := Lib.hid hown6; have BW6 : Bx (Below w4.heap.size w4 w6) := ⟨(BW5.out.alloc BW5.out.size _).trans hb6⟩; clear hown6 hb6 hg6)
          | (refine step_appE rfl _ _ rfl w4.heap.size _ 0 _ rfl HO5.out (some ⟨w4.heap.size + 1, 0, none⟩) 1 1 [((⟨x0, x1, x2, x3, x4, x5, mix⟩, A, n, cap) : Jn.Er)] rfl rfl (fun h => nomatch h) CM5.out HX2.out BW5.out.size (0 + 1) rfl ?_; intro A6 cap6 w6 hown6 hg6 hb6; have HO6 := Lib.hid hown6; have BW6 : Bx (Below w4.heap.size w4 w6) := ⟨BW5.out.trans hb6⟩; clear hown6 hb6 hg6)
          | (refine step_appE rfl _ _ rfl w4.heap.size _ 0 _ rfl HO5.out (some ⟨w4.heap.size, 0, none⟩) 1 1 [((⟨x0, x1, x2, x3, x4, x5, mix⟩, A, n, cap) : Jn.Er)] rfl rfl (fun h => nomatch h) CM5.out HX2.out BW5.out.size (0 + 1) rfl ?_; intro A6 cap6 w6 hown6 hg6 hb6; have HO6 := Lib.hid hown6; have BW6 : Bx (Below w4.heap.size w4 w6) := ⟨BW5.out.trans hb6⟩; clear hown6 hb6 hg6)
          | (go_at_call 15; refine (HSS.out A6 cap6 w6 BW6.out HO6.out).mono ?_; rintro e w7 ⟨rfl, hb7⟩; have BW7 : Bx (Below w4.heap.size w4 w7) := ⟨on BW6.out hb7⟩; clear hb7)
          | (go_at_call 12; refine (awake_any w7).mono ?_; rintro e w8 ⟨rfl, hb8⟩; have BW8 : Bx (Below w4.heap.size w4 w8) := ⟨on BW7.out hb8⟩; clear hb8))
        all_goals
          go_wp2
          go_ret
          exact ⟨rfl, on HB4.out BW8.out⟩
      · obtain ⟨mm, hmm⟩ : ∃ mm, n5 = mm + 1 := ⟨n5 - 1, by omega⟩
        obtain ⟨xl, hxe, hxl⟩ := Jn.last_erW HLM0.out (by rw [← HN5.out]; omega)
        rw [← HN5.out, hmm, Nat.add_sub_cancel] at hxl
        have HL51 : Bx (mm + 1 + 1 = (es ++ [(⟨x0, x1, x2, x3, x4, x5, mix⟩ : Jn.Ev)]).length) := ⟨by rw [List.length_append, ← HN5.out, hmm]; rfl⟩
        have HLL : Bx (L5.length = mm + 1) := ⟨by rw [HLL0.out, hmm]⟩
        subst hmm
        obtain ⟨g, hA5, _, hgl⟩ := own7_someW HO3.out (by omega)
        subst hA5
        have hcell : w3.cell? ⟨g, mm * 7 + 1, none⟩ = some (.int .i64 (Jn.lastAt 0 es)) := by
          have h1 := World.ownsRow.cellAt HO3.out (mm * 7 + 1) (by omega)
          rw [h1, Jn.ecells_at L5 mm xl hxl 1 (.int .i64 (Jn.lastAt 0 es)) (by rw [← hxe]; rfl)]
        obtain ⟨t2, ht2⟩ : ∃ t2, t2 = Jn.lastAt 0 es := ⟨_, rfl⟩
        have HT2 : Bx (t2 = Jn.lastAt 0 es) := ⟨ht2⟩
        rw [← ht2] at hcell
        have hmx1 : ((mm + 1 : Nat) : Int) - 1 = (mm : Int) := by omega
        have hmp : (0 : Int) < ((mm + 1 : Nat) : Int) := by omega
        have hml : (mm : Int) < ((mm + 1 : Nat) : Int) := by omega
        have hml2 : (mm : Int) < (mm : Int) + 1 := by omega
        have hml3 : mm < mm + 1 := by omega
        have hm0 : (0 : Int) ≤ (mm : Int) := by omega
        have hmw : IntKind.i64.wrap (mm : Int) = (mm : Int) := by rw [IntKind.wrap_i64]; omega
        clear hn0 hxe hxl ht2
        by_cases hlt2 : x1 < t2
        · clear HRE2F
          go_upto_region 7 with fail
          go_quiet (fail)
          go_wp2_with fail
          refine (awake_any _).mono ?_
          rintro e w9 ⟨rfl, hb9⟩
          have HB9 : Bx (Below w.heap.size w w9) := ⟨on (below_drewN HB3.out _) hb9⟩
          clear hb9
          go_wp2
          go_ret
          exact ⟨rfl, HB9.out⟩
        · have HRE2 : Bx (Jn.recover (Jn.jr (es ++ [⟨x0, x1, x2, x3, x4, x5, mix⟩])) = (es ++ [⟨x0, x1, x2, x3, x4, x5, mix⟩], (Jn.jr (es ++ [⟨x0, x1, x2, x3, x4, x5, mix⟩])).length)) := ⟨HRE2F.out (.inr (by rw [← HT2.out]; omega))⟩
          clear HRE2F HT2
          have HRQ := Lib.hid (fun nq : Nat => recover_any A7 n7 cap7 (Jn.jr (es ++ [⟨x0, x1, x2, x3, x4, x5, mix⟩])) HN7.out hcap7 (w3.drewN nq) (HR7.out.to (below_drewN (Below.refl _ _) nq)) (by rw [← HN7.out]; omega))
          rw [HRE2.out] at HRQ
          go_upto_region 7 with fail
          go_quiet (fail)
          go_wp2_with fail
          refine (HRQ.out _).mono ?_
          rintro e w4 ⟨A8, n8, cap8, L8, rfl, hn8, hL8, ho8, hg8, hb8⟩
          simp only at hn8 hL8 ⊢
          have hb84 : Below w3.heap.size w3 w4 := (below_drewN (Below.refl _ _) _).trans hb8
          have HB4 : Bx (Below w.heap.size w w4) := ⟨on HB3.out hb84⟩
          have HV4 : Bx (EvAt w4 w.heap.size x0 x1 x2 x3 x4 x5 A n cap) := ⟨HV3.out.to hb84⟩
          have HE8 : Bx (Jn.Evs w4 A8 (es ++ [⟨x0, x1, x2, x3, x4, x5, mix⟩])) := ⟨by have := Jn.own7_evs ho8 hg8; rwa [hL8] at this⟩
          have HN8 : Bx (n8 = (es ++ [(⟨x0, x1, x2, x3, x4, x5, mix⟩ : Jn.Ev)]).length) := ⟨hn8⟩
          have HO4 := Lib.hid (own7_kept HO3.out hb84)
          have HGR : Bx (Jn.GoodR w4 (L5 ++ [((⟨x0, x1, x2, x3, x4, x5, mix⟩, A, n, cap) : Jn.Er)])) := ⟨(HGD3.out.to hb84).snoc ⟨HLE.out, HNL.out, HRE.out _ HB4.out⟩⟩
          have hlen7 : ((Jn.jr (es ++ [(⟨x0, x1, x2, x3, x4, x5, mix⟩ : Jn.Ev)])).length : Int) = (n7 : Int) := by rw [← HN7.out]
          rw [hlen7]
          have h77 : ((n7 : Int) == (n7 : Int)) = true := by simp
          clear hn8 hL8 ho8 hg8 hb8 hb84 hlen7 HRQ
          have HK : Bx (∀ wx, Below w4.heap.size w4 wx → wx.cell? ⟨w.heap.size, 0, none⟩ = some (.int .i64 x0) ∧ wx.cell? ⟨w.heap.size, 1, none⟩ = some (.int .i64 x1) ∧ wx.cell? ⟨w.heap.size, 2, none⟩ = some (.int .i64 x2) ∧ wx.cell? ⟨w.heap.size, 3, none⟩ = some (.int .i64 x3) ∧ wx.cell? ⟨w.heap.size, 4, none⟩ = some (.int .i64 x4) ∧ wx.cell? ⟨w.heap.size, 5, none⟩ = some (.int .i64 x5) ∧ wx.cell? ⟨w.heap.size, 6, none⟩ = some (.slice A n cap)) := ⟨fun wx hw => by
            obtain ⟨c0, c1, c2, c3, c4, c5, c6, _⟩ := HV4.out.to hw
            exact ⟨c0, c1, c2, c3, c4, c5, c6⟩⟩
          have HBD : Bx (Below w4.heap.size w4 w4.drew) := ⟨(Below.refl _ _).drew⟩
          have BWA : Bx (Below w4.heap.size w4 (w4.drew.alloc (.cells #[] 35))) := ⟨HBD.out.alloc (Nat.le_refl _) _⟩
          have BWM : Bx (Below w4.heap.size w4 (w4.drew.alloc (.cells #[.int .i64 x0, .int .i64 x1, .int .i64 x2, .int .i64 x3, .int .i64 x4, .int .i64 x5, .slice A n cap] 35))) := ⟨HBD.out.alloc (Nat.le_refl _) _⟩
          have BWAM : Bx (Below w4.heap.size w4 ((w4.drew.alloc (.cells #[] 35)).alloc (.cells #[.int .i64 x0, .int .i64 x1, .int .i64 x2, .int .i64 x3, .int .i64 x4, .int .i64 x5, .slice A n cap] 35))) := ⟨BWA.out.alloc BWA.out.size _⟩
          have BWMA : Bx (Below w4.heap.size w4 ((w4.drew.alloc (.cells #[.int .i64 x0, .int .i64 x1, .int .i64 x2, .int .i64 x3, .int .i64 x4, .int .i64 x5, .slice A n cap] 35)).alloc (.cells #[] 35))) := ⟨BWM.out.alloc BWM.out.size _⟩
          have HSM : Bx (w4.heap.size + 1 = (w4.drew.alloc (.cells #[.int .i64 x0, .int .i64 x1, .int .i64 x2, .int .i64 x3, .int .i64 x4, .int .i64 x5, .slice A n cap] 35)).heap.size) := ⟨by show _ = (w4.drew.alloc _).heap.size; rw [heap_alloc_size]; rfl⟩
          have HSA : Bx (w4.heap.size + 1 = (w4.drew.alloc (.cells #[] 35)).heap.size) := ⟨by show _ = (w4.drew.alloc _).heap.size; rw [heap_alloc_size]; rfl⟩
          have OWA := Lib.hid (show (w4.drew.alloc (.cells #[] 35)).ownsRow w4.heap.size 35 7 (.slice (some ⟨w4.heap.size, 0, none⟩) 0 0) 0 (Jn.ecells []) from World.ownsRow_lit (base := w4.heap.size) (e := 35) (size := 7) w4.drew #[] 0 (Nat.le_refl _) (by unfold maxLen; omega) rfl)
          have OWAM := Lib.hid (OWA.out.alloc (.cells #[.int .i64 x0, .int .i64 x1, .int .i64 x2, .int .i64 x3, .int .i64 x4, .int .i64 x5, .slice A n cap] 35))
          have OWMA := Lib.hid (show ((w4.drew.alloc (.cells #[.int .i64 x0, .int .i64 x1, .int .i64 x2, .int .i64 x3, .int .i64 x4, .int .i64 x5, .slice A n cap] 35)).alloc (.cells #[] 35)).ownsRow w4.heap.size 35 7 (.slice (some ⟨w4.heap.size + 1, 0, none⟩) 0 0) 0 (Jn.ecells []) by
            rw [HSM.out]
            exact World.ownsRow_lit (base := w4.heap.size) (e := 35) (size := 7) (w4.drew.alloc (.cells #[.int .i64 x0, .int .i64 x1, .int .i64 x2, .int .i64 x3, .int .i64 x4, .int .i64 x5, .slice A n cap] 35)) #[] 0 BWM.out.size (by unfold maxLen; omega) rfl)
          have CMA := Lib.hid (show Rd ((w4.drew.alloc (.cells #[.int .i64 x0, .int .i64 x1, .int .i64 x2, .int .i64 x3, .int .i64 x4, .int .i64 x5, .slice A n cap] 35)).alloc (.cells #[] 35)) (some ⟨w4.heap.size, 0, none⟩) (Jn.ecells [((⟨x0, x1, x2, x3, x4, x5, mix⟩, A, n, cap) : Jn.Er)]) from (lit_rdm w4.drew w4.heap.size rfl (Jn.ecells [((⟨x0, x1, x2, x3, x4, x5, mix⟩, A, n, cap) : Jn.Er)]) 35 _).to (below_new _ _))
          have CAM := Lib.hid (show Rd ((w4.drew.alloc (.cells #[] 35)).alloc (.cells #[.int .i64 x0, .int .i64 x1, .int .i64 x2, .int .i64 x3, .int .i64 x4, .int .i64 x5, .slice A n cap] 35)) (some ⟨w4.heap.size + 1, 0, none⟩) (Jn.ecells [((⟨x0, x1, x2, x3, x4, x5, mix⟩, A, n, cap) : Jn.Er)]) from lit_rdm (w4.drew.alloc (.cells #[] 35)) (w4.heap.size + 1) HSA.out (Jn.ecells [((⟨x0, x1, x2, x3, x4, x5, mix⟩, A, n, cap) : Jn.Er)]) 35 _)
          have HRW : Bx (∀ wx, Below w4.heap.size w4 wx → Rd wx (some ⟨g, 0, none⟩) (Jn.ecells L5)) := ⟨fun wx hw => (own7_rd HO4.out).to hw⟩
          have HC5 : Bx (((some ⟨g, 0, none⟩) : Option Addr) = none → cap5 = 0) := ⟨own7_none HO4.out⟩
          have HSS := Lib.hid (fun (A6 : Option Addr) (cap6 : Nat) (w6 : World) (hw : Below w4.heap.size w4 w6) (ho : w6.ownsRow w4.heap.size 35 7 (.slice A6 ((mm + 1) + 1) cap6) ((mm + 1) + 1) (Jn.ecells ([] ++ L5 ++ [((⟨x0, x1, x2, x3, x4, x5, mix⟩, A, n, cap) : Jn.Er)]))) =>
            sames_any A8 n8 cap8 (es ++ [⟨x0, x1, x2, x3, x4, x5, mix⟩]) HN8.out A6 ((mm + 1) + 1) cap6 (es ++ [⟨x0, x1, x2, x3, x4, x5, mix⟩]) HL51.out w6 (HE8.out.to hw) (by
              have := Jn.own7_evsR (L := [] ++ L5 ++ [((⟨x0, x1, x2, x3, x4, x5, mix⟩, A, n, cap) : Jn.Er)]) ho (HGR.out.to hw)
              rw [List.nil_append, HLM.out] at this
              exact this) (by rw [← HL51.out]; omega) (fun e he => by have := HMX.out e he; omega))
          rw [show decide ((es ++ [(⟨x0, x1, x2, x3, x4, x5, mix⟩ : Jn.Ev)]) = es ++ [⟨x0, x1, x2, x3, x4, x5, mix⟩]) = true by simp] at HSS
          have HX1 : Bx (0 + (mm + 1) ≤ 100000000) := ⟨by omega⟩
          have HX2 : Bx ((mm + 1) + 1 ≤ 100000000) := ⟨by omega⟩
          have HFA : Bx (∀ a : Addr, some ⟨w4.heap.size + 1, 0, none⟩ = some a → some a.block ≠ (Value.slice (some ⟨w4.heap.size, 0, none⟩) 0 0).ownBlock) := ⟨fun a ha h => by
            cases ha
            simp [Value.ownBlock] at h⟩
          have HFM : Bx (∀ a : Addr, some ⟨w4.heap.size, 0, none⟩ = some a → some a.block ≠ (Value.slice (some ⟨w4.heap.size + 1, 0, none⟩) 0 0).ownBlock) := ⟨fun a ha h => by
            cases ha
            simp [Value.ownBlock] at h⟩
          go_upto_region 10 with fail
          go_region_held_law (fun wx => wx.cell? ⟨w.heap.size, 0, none⟩ = some (.int .i64 x0) ∧ wx.cell? ⟨w.heap.size, 1, none⟩ = some (.int .i64 x1) ∧ wx.cell? ⟨w.heap.size, 2, none⟩ = some (.int .i64 x2) ∧ wx.cell? ⟨w.heap.size, 3, none⟩ = some (.int .i64 x3) ∧ wx.cell? ⟨w.heap.size, 4, none⟩ = some (.int .i64 x4) ∧ wx.cell? ⟨w.heap.size, 5, none⟩ = some (.int .i64 x5) ∧ wx.cell? ⟨w.heap.size, 6, none⟩ = some (.slice A n cap))
            (first | exact HK.out _ HBD.out | exact HK.out _ BWA.out | exact HK.out _ BWM.out | exact HK.out _ BWAM.out | exact HK.out _ BWMA.out | exact HK.out _ BW5.out | exact HK.out _ (BW5.out.alloc BW5.out.size _) | exact HK.out _ BW6.out | exact HK.out _ BW7.out | exact HK.out _ BW8.out)
            (first
            | (refine step_appE rfl _ _ rfl w4.heap.size _ 0 [] rfl OWAM.out (some ⟨g, 0, none⟩) (mm + 1) cap5 L5 rfl HLL.out HC5.out (HRW.out _ BWAM.out) HX1.out BWAM.out.size (mm + 1) (Nat.zero_add _).symm ?_; intro A5b cap5b w5 hown5 hg5 hb5; have HO5 := Lib.hid hown5; have BW5 : Bx (Below w4.heap.size w4 w5) := ⟨BWAM.out.trans hb5⟩; have CM5 := Lib.hid (CAM.out.grown hg5 HFA.out); clear hown5 hb5 hg5)
            | (refine step_appE rfl _ _ rfl w4.heap.size _ 0 [] rfl OWMA.out (some ⟨g, 0, none⟩) (mm + 1) cap5 L5 rfl HLL.out HC5.out (HRW.out _ BWMA.out) HX1.out BWMA.out.size (mm + 1) (Nat.zero_add _).symm ?_; intro A5b cap5b w5 hown5 hg5 hb5; have HO5 := Lib.hid hown5; have BW5 : Bx (Below w4.heap.size w4 w5) := ⟨BWMA.out.trans hb5⟩; have CM5 := Lib.hid (CMA.out.grown hg5 HFM.out); clear hown5 hb5 hg5)
            | (refine step_appE rfl _ _ rfl w4.heap.size _ 0 [] rfl OWA.out (some ⟨g, 0, none⟩) (mm + 1) cap5 L5 rfl HLL.out HC5.out (HRW.out _ BWA.out) HX1.out BWA.out.size (mm + 1) (Nat.zero_add _).symm ?_; intro A5b cap5b w5 hown5 hg5 hb5; have HO5 := Lib.hid hown5; have BW5 : Bx (Below w4.heap.size w4 w5) := ⟨BWA.out.trans hb5⟩; clear hown5 hb5 hg5)
            | (refine step_appE rfl _ _ rfl w4.heap.size _ (mm + 1) _ rfl (HO5.out.alloc _) (some ⟨w5.heap.size, 0, none⟩) 1 1 [((⟨x0, x1, x2, x3, x4, x5, mix⟩, A, n, cap) : Jn.Er)] rfl rfl (fun h => nomatch h) (lit_rdm w5 w5.heap.size rfl (Jn.ecells [((⟨x0, x1, x2, x3, x4, x5, mix⟩, A, n, cap) : Jn.Er)]) 35 _) HX2.out (Nat.le_trans BW5.out.size (below_new w5 _).size) ((mm + 1) + 1) rfl ?_; intro A6 cap6 w6 hown6 hg6 hb6; have HO6 := Lib.hid hown6; have BW6 : Bx (Below w4.heap.size w4 w6) := ⟨(BW5.out.alloc BW5.out.size _).trans hb6⟩; clear hown6 hb6 hg6)
            | (refine step_appE rfl _ _ rfl w4.heap.size _ (mm + 1) _ rfl HO5.out (some ⟨w4.heap.size + 1, 0, none⟩) 1 1 [((⟨x0, x1, x2, x3, x4, x5, mix⟩, A, n, cap) : Jn.Er)] rfl rfl (fun h => nomatch h) CM5.out HX2.out BW5.out.size ((mm + 1) + 1) rfl ?_; intro A6 cap6 w6 hown6 hg6 hb6; have HO6 := Lib.hid hown6; have BW6 : Bx (Below w4.heap.size w4 w6) := ⟨BW5.out.trans hb6⟩; clear hown6 hb6 hg6)
            | (refine step_appE rfl _ _ rfl w4.heap.size _ (mm + 1) _ rfl HO5.out (some ⟨w4.heap.size, 0, none⟩) 1 1 [((⟨x0, x1, x2, x3, x4, x5, mix⟩, A, n, cap) : Jn.Er)] rfl rfl (fun h => nomatch h) CM5.out HX2.out BW5.out.size ((mm + 1) + 1) rfl ?_; intro A6 cap6 w6 hown6 hg6 hb6; have HO6 := Lib.hid hown6; have BW6 : Bx (Below w4.heap.size w4 w6) := ⟨BW5.out.trans hb6⟩; clear hown6 hb6 hg6)
            | (go_at_call 15; refine (HSS.out A6 cap6 w6 BW6.out HO6.out).mono ?_; rintro e w7 ⟨rfl, hb7⟩; have BW7 : Bx (Below w4.heap.size w4 w7) := ⟨on BW6.out hb7⟩; clear hb7)
            | (go_at_call 12; refine (awake_any w7).mono ?_; rintro e w8 ⟨rfl, hb8⟩; have BW8 : Bx (Below w4.heap.size w4 w8) := ⟨on BW7.out hb8⟩; clear hb8))
          all_goals
            go_wp2
            go_ret
            exact ⟨rfl, on HB4.out BW8.out⟩
    · have happ : Jn.app (Jn.jr es) ⟨x0, x1, x2, x3, x4, x5, mix⟩ = ([], Jn.check ⟨x0, x1, x2, x3, x4, x5, mix⟩) := by unfold Jn.app; rw [if_pos hc]
      rw [happ] at HAP
      generalize Jn.check ⟨x0, x1, x2, x3, x4, x5, mix⟩ = cc at hc HAP happ
      have hcf : (cc == 0) = false := beq_f hc
      have hcn : (cc != 0) = true := by simp [hc]
      clear happ hc
      go_upto_region 6 with fail
      go_region_held (fun wx => wx.cell? ⟨w.heap.size, 0, none⟩ = some (.int .i64 x0) ∧ wx.cell? ⟨w.heap.size, 1, none⟩ = some (.int .i64 x1) ∧ wx.cell? ⟨w.heap.size, 2, none⟩ = some (.int .i64 x2) ∧ wx.cell? ⟨w.heap.size, 3, none⟩ = some (.int .i64 x3) ∧ wx.cell? ⟨w.heap.size, 4, none⟩ = some (.int .i64 x4) ∧ wx.cell? ⟨w.heap.size, 5, none⟩ = some (.int .i64 x5) ∧ wx.cell? ⟨w.heap.size, 6, none⟩ = some (.slice A n cap))
        (first | exact HK2.out _ HBD2.out | exact HK2.out _ HBW3.out) (first
        | (go_at_call 16; refine (HAP.out).mono ?_; rintro e w3 ⟨A7, n7, cap7, rfl, hn7, hcap7, hc7, hr7, hb7⟩; have HN7 : Bx (n7 = 0) := ⟨hn7⟩; have HBW3 : Bx (Below w2.heap.size w2 w3) := ⟨on HBD2.out hb7⟩; clear hn7 hcap7 hc7 hr7 hb7))
      have HB3 : Bx (Below w.heap.size w w3) := ⟨on HB2.out HBW3.out⟩
      have hn70 : n7 = 0 := HN7.out
      subst hn70
      go_upto_region 7 with fail
      go_quiet (fail)
      go_wp2_with fail
      refine (awake_any _).mono ?_
      rintro e w9 ⟨rfl, hb9⟩
      have HB9 : Bx (Below w.heap.size w w9) := ⟨on (below_drewN HB3.out _) hb9⟩
      clear hb9
      go_wp2
      go_ret
      exact ⟨rfl, HB9.out⟩
  · have hcase : (1000 : Int) < (m : Int) ∨ (¬ (1000 : Int) < (m : Int) ∧ (40 : Int) < (n : Int)) := by omega
    unfold Jn.Ev.val
    obtain ⟨x0, x1, x2, x3, x4, x5, mix⟩ := X
    simp only
    have HB0 : Bx (Below w.heap.size w (w.alloc (.cells #[.int .i64 x0, .int .i64 x1, .int .i64 x2, .int .i64 x3, .int .i64 x4, .int .i64 x5, .slice A n cap] 35))) := ⟨below_new w _⟩
    clear h h0 hnm
    rcases hcase with hn' | ⟨hn', hm'⟩
    all_goals
      go_enter Try.func4, Try.ntmps4
      go_wp2_with fail
      refine (awake_any _).mono ?_
      rintro e w3 ⟨rfl, hb3⟩
      go_wp2
      go_ret
      exact ⟨rfl, on HB0.out hb3⟩
end Go.Proofs.Ytcpdfgckfefboaa
