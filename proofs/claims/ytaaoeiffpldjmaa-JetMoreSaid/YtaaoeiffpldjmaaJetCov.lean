/- The walk of Covers. -/
import Derived.Test.YtaaoeiffpldjmaaJetRests
namespace Go.Proofs.Ytaaoeiffpldjmaa
open Go.RowKit
namespace Jt
theorem chk_zero {d h r : Int} (hc : chk ⟨d, h, r⟩ = 0) : (0 ≤ d ∧ d ≤ 1000) ∧ (1 ≤ h ∧ h ≤ 100) ∧ (0 ≤ r ∧ r ≤ 100) := by
  unfold chk at hc
  simp only at hc
  split at hc
  · cases hc
  · omega
theorem covers_no (l : List Win) (v : Valve) (hits : List Int) (h : chk v ≠ 0) : covers l v hits = false := by simp [covers, h]
theorem covers_yes (l : List Win) (v : Valve) (hits : List Int) (h : chk v = 0) : covers l v hits = hits.all (coversOne l v) := by simp [covers, h]
theorem one_range (l : List Win) (d r : Int) (H : Nat) (h : Int) (hh : h < 0 ∨ 1048576 < h) : coversOne l ⟨d, (H : Int), r⟩ h = false := by
  unfold coversOne
  have : decide (0 ≤ h ∧ h ≤ 1048576) = false := by simp; omega
  rw [this, Bool.false_and]
theorem one_shut (l : List Win) (d r : Int) (H : Nat) (h : Int) (i : Nat) (hi : i < H) (ho : isOpen l (h + d + (i : Int)) = false) : coversOne l ⟨d, (H : Int), r⟩ h = false := by
  unfold coversOne
  have : ((List.range (H : Int).toNat).all fun i => isOpen l (h + d + (i : Int))) = false := by
    rw [List.all_eq_false]
    exact ⟨i, by simpa using hi, by simp [ho]⟩
  simp only [this, Bool.and_false]
theorem one_open (l : List Win) (d r : Int) (H : Nat) (h : Int) (h0 : ¬ h < 0) (h1 : ¬ 1048576 < h) (ho : ∀ i, i < H → isOpen l (h + d + (i : Int)) = true) : coversOne l ⟨d, (H : Int), r⟩ h = true := by
  unfold coversOne
  have h2 : decide (0 ≤ h ∧ h ≤ 1048576) = true := by simp; omega
  rw [h2, Bool.true_and, List.all_eq_true]
  intro i hi
  exact ho i (by simpa using hi)
end Jt

set_option maxRecDepth 100000 in
set_option maxHeartbeats 6400000 in
theorem covers_any (d h0 r : Int) (A : Option Addr) (n cap : Nat) (l : List Jt.Win) (hn : n = l.length) (A2 : Option Addr) (n2 cap2 : Nat) (l2 : List Int) (hn2 : n2 = l2.length) (w : World) (hr : Jt.Wins w A l) (hr2 : Rd w A2 (iv l2)) (hlen : l.length ≤ 1000000000000) (hlen2 : l2.length ≤ 1000000000000) :
    Calls Try.prog 17 #[.slice A n cap, .agg #[.int .i64 d, .int .i64 h0, .int .i64 r], .slice A2 n2 cap2] w fun e w' => e = .returned (.bool (Jt.covers l ⟨d, h0, r⟩ l2)) ∧ Below w.heap.size w w' := by
  subst hn hn2
  have HR1 := Lib.hid hr
  have HR2 := Lib.hid hr2
  clear hr hr2
  have HC := Lib.hid (chk_any d h0 r (w.alloc (.cells #[.int .i64 d, .int .i64 h0, .int .i64 r] 23)))
  obtain ⟨res, hres⟩ : ∃ res, res = Jt.covers l ⟨d, h0, r⟩ l2 := ⟨_, rfl⟩
  rw [← hres]
  by_cases hc0 : Jt.chk ⟨d, h0, r⟩ ≠ 0
  · have HF := Lib.hid (show false = res by rw [hres, Jt.covers_no _ _ _ hc0])
    clear hres
    generalize Jt.chk ⟨d, h0, r⟩ = c at HC hc0
    have hcf : (c == 0) = false := beq_f hc0
    go_enter Try.func17, Try.ntmps17
    go_wp2_with fail
    refine (HC.out).mono ?_
    rintro e w0 ⟨rfl, hb⟩
    have HB0 := Lib.hid ((below_new w _).trans (hb.mono (by simp)) : Below w.heap.size w w0)
    clear hb hc0
    go_wp2
    go_ret
    exact ⟨ret_bool HF.out, HB0.out⟩
  have hc1 : Jt.chk ⟨d, h0, r⟩ = 0 := by omega
  obtain ⟨⟨hd0, hd1⟩, ⟨hh0, hh1⟩, _⟩ := Jt.chk_zero hc1
  obtain ⟨H, rfl⟩ : ∃ H : Nat, h0 = (H : Int) := ⟨h0.toNat, by omega⟩
  have HS0 := Lib.hid (show res = l2.all (Jt.coversOne l ⟨d, (H : Int), r⟩) by rw [hres, Jt.covers_yes _ _ _ hc1])
  rw [hc1] at HC
  clear hc0 hres hc1
  go_enter Try.func17, Try.ntmps17
  go_wp2_with fail
  refine (HC.out).mono ?_
  rintro e w0 ⟨rfl, hb⟩
  have HB0 := Lib.hid ((below_new w _).trans (hb.mono (by simp)) : Below w.heap.size w w0)
  have HW := Lib.hid (HR1.out.to HB0.out)
  have HR := Lib.hid (HR2.out.to HB0.out)
  have hsz0 : w.heap.size < w0.heap.size := by have := hb.size; simp at this; omega
  have hv0 : w0.cell? ⟨w.heap.size, 0, none⟩ = some (.int .i64 d) := by
    rw [hb.cell (by simp)]
    unfold World.cell?
    rw [heap_alloc_new]
    simp
  have hv1 : w0.cell? ⟨w.heap.size, 1, none⟩ = some (.int .i64 (H : Int)) := by
    rw [hb.cell (by simp)]
    unfold World.cell?
    rw [heap_alloc_new]
    simp
  have HV0 := Lib.hid hv0
  have HV1 := Lib.hid hv1
  clear hb hv0 hv1
  go_wp2
  go_loopg [15] l2.length (fun g i wr => ∃ k : Nat, k ≤ l2.length ∧ g = l2.length - k ∧ i = .int .i64 (k : Int) ∧ Hid (res = (l2.drop k).all (Jt.coversOne l ⟨d, (H : Int), r⟩)) ∧ Below w0.heap.size w0 wr)
  case atStart => exact ⟨0, by omega, rfl, rfl, HS0, Below.refl _ _⟩
  case round =>
    obtain ⟨k, hk, rfl, rfl, HG, hbw⟩ := hrel
    have HB := Lib.hid hbw
    have hsz := hbw.size
    have HBW := Lib.hid (show Below w.heap.size w wr from HB0.out.trans (hbw.mono (by omega)))
    have hszl : w.heap.size < wr.heap.size := by omega
    by_cases hlt : k < l2.length
    · have hdr : l2.drop k = l2[k] :: l2.drop (k + 1) := List.drop_eq_getElem_cons hlt
      obtain ⟨b, off, rfl, hlt2, hcx⟩ := (HR.out.to hbw).ati hlt
      have hv1 : wr.cell? ⟨w.heap.size, 1, none⟩ = some (.int .i64 (H : Int)) := by rw [hbw.cell hsz0]; exact HV1.out
      generalize l2[k] = h at hdr hcx
      have hki : (k : Int) < (l2.length : Int) := by omega
      have hcase : h < 0 ∨ (¬ h < 0 ∧ 1048576 < h) ∨ (¬ h < 0 ∧ ¬ 1048576 < h) := by omega
      rcases hcase with g1 | ⟨g1, g2⟩ | ⟨g1, g2⟩
      · have HF := Lib.hid (show false = res by rw [HG.out, hdr, List.all_cons, Jt.one_range l d r H h (.inl g1)]; rfl)
        clear hbw hdr
        go_wp2
        go_ret
        exact ⟨ret_bool HF.out, HBW.out⟩
      · have HF := Lib.hid (show false = res by rw [HG.out, hdr, List.all_cons, Jt.one_range l d r H h (.inr g2)]; rfl)
        clear hbw hdr
        go_wp2
        go_ret
        exact ⟨ret_bool HF.out, HBW.out⟩
      · have HD := Lib.hid hdr
        clear hbw hdr
        go_wp2
        go_loopg [27] H (fun g i wi => ∃ j : Nat, j ≤ H ∧ g = H - j ∧ i = .int .i64 (j : Int) ∧ Hid (∀ q, q < j → Jt.isOpen l (h + d + (q : Int)) = true) ∧ Below w0.heap.size w0 wi)
        case atStart => exact ⟨0, by omega, rfl, rfl, Lib.hid (fun q hq => absurd hq (by omega)), HB.out⟩
        case round =>
          obtain ⟨j, hj, rfl, rfl, HI, hbi⟩ := hrel
          have HBI := Lib.hid hbi
          have hszi := hbi.size
          have HBIW := Lib.hid (show Below w.heap.size w wr from HB0.out.trans (hbi.mono (by omega)))
          have hszil : w.heap.size < wr.heap.size := by omega
          have hv2 : wr.cell? ⟨w.heap.size, 0, none⟩ = some (.int .i64 d) := by rw [hbi.cell hsz0]; exact HV0.out
          have HO := Lib.hid (open_any A l.length cap l rfl (h + d + (j : Int)) wr (HW.out.to hbi) (by omega))
          by_cases hjl : j < H
          · have hji : (j : Int) < (H : Int) := by omega
            obtain ⟨o, ho⟩ : ∃ o, o = Jt.isOpen l (h + d + (j : Int)) := ⟨_, rfl⟩
            rw [← ho] at HO
            have HQ := Lib.hid ho
            clear hbi ho
            go_wp2_with fail
            refine (HO.out).mono ?_
            rintro e wo ⟨rfl, hbo⟩
            have HBO := Lib.hid hbo
            cases o with
            | false =>
              have HF := Lib.hid (show false = res by rw [HG.out, HD.out, List.all_cons, Jt.one_shut l d r H h j hjl HQ.out.symm]; rfl)
              clear hbo
              go_wp2
              go_ret
              exact ⟨ret_bool HF.out, on HBIW.out HBO.out⟩
            | true =>
              have HN := Lib.hid (show ∀ q, q < j + 1 → Jt.isOpen l (h + d + (q : Int)) = true from fun q hq => by
                rcases Nat.lt_or_ge q j with h1 | h1
                · exact HI.out q h1
                · have : q = j := by omega
                  subst this
                  exact HQ.out.symm)
              clear hbo
              go_wp2
              go_roundg (H - (j + 1))
              case measure => omega
              case rel => exact ⟨j + 1, by omega, rfl, by go_num, HN, on HBI.out HBO.out⟩
          · have hjh : j = H := by omega
            have HN := Lib.hid (show res = (l2.drop (k + 1)).all (Jt.coversOne l ⟨d, (H : Int), r⟩) by
              rw [HG.out, HD.out, List.all_cons, Jt.one_open l d r H h (by omega) (by omega) (by rw [← hjh]; exact HI.out)]; rfl)
            have hji : ¬ (j : Int) < (H : Int) := by omega
            clear hbi
            go_wp2
            go_roundg (l2.length - (k + 1))
            case measure => omega
            case rel => exact ⟨k + 1, by omega, rfl, by go_num, HN, HBI.out⟩
    · have hke : k = l2.length := by omega
      have HF := Lib.hid (show true = res by rw [HG.out, hke, List.drop_length]; rfl)
      have hki : ¬ (k : Int) < (l2.length : Int) := by omega
      clear hbw
      go_wp2
      go_ret
      exact ⟨ret_bool HF.out, HBW.out⟩
end Go.Proofs.Ytaaoeiffpldjmaa
