/- Lists of events in memory; the walk of the reference's Same. -/
import Derived.Test.YtcpdfgckfefboaaJnSame
import Derived.Deep.RegionHeld
namespace Go.Proofs.Ytcpdfgckfefboaa
open Go.RowKit
namespace Jn
/-- The seven cells of element k hold the event, and its masses are read. -/
def At (w : World) (b o : Nat) (e : Ev) : Prop := ∃ A n cap, w.cell? ⟨b, o, none⟩ = some (.int .i64 e.kind) ∧ w.cell? ⟨b, o + 1, none⟩ = some (.int .i64 e.at_) ∧ w.cell? ⟨b, o + 2, none⟩ = some (.int .i64 e.a) ∧ w.cell? ⟨b, o + 3, none⟩ = some (.int .i64 e.b) ∧ w.cell? ⟨b, o + 4, none⟩ = some (.int .i64 e.c) ∧ w.cell? ⟨b, o + 5, none⟩ = some (.int .i64 e.d) ∧ w.cell? ⟨b, o + 6, none⟩ = some (.slice A n cap) ∧
  n = e.mix.length ∧ (A = none → cap = 0) ∧ Rd w A (iv e.mix)
/-- A slice's elements. -/
def Evs (w : World) (A : Option Addr) (l : List Ev) : Prop := ∀ k e, l[k]? = some e → ∃ b off, A = some ⟨b, off, none⟩ ∧ b < w.heap.size ∧ At w b (off + k * 7) e
theorem At.to {w w' : World} {b o : Nat} {e : Ev} (h : At w b o e) (hb : b < w.heap.size) (hw : Below w.heap.size w w') : At w' b o e := by
  obtain ⟨A, n, cap, c0, c1, c2, c3, c4, c5, c6, h1, h2, h3⟩ := h
  have hc : ∀ j, w'.cell? ⟨b, j, none⟩ = w.cell? ⟨b, j, none⟩ := fun j => hw.cell (p := ⟨b, j, none⟩) hb
  exact ⟨A, n, cap, (hc _).trans c0, (hc _).trans c1, (hc _).trans c2, (hc _).trans c3, (hc _).trans c4, (hc _).trans c5, (hc _).trans c6, h1, h2, h3.to hw⟩
theorem Evs.to {w w' : World} {A : Option Addr} {l : List Ev} (h : Evs w A l) (hw : Below w.heap.size w w') : Evs w' A l := by
  intro k e hk
  obtain ⟨b, off, hA, hb, ha⟩ := h k e hk
  exact ⟨b, off, hA, Nat.lt_of_lt_of_le hb hw.size, ha.to hb hw⟩
end Jn
theorem Jn.take_more {α : Type} {l r : List α} {k : Nat} (hl : k < l.length) (hr : k < r.length) (h : l.take k = r.take k) (he : l[k] = r[k]) : l.take (k + 1) = r.take (k + 1) := by
  rw [List.take_succ_eq_append_getElem hl, List.take_succ_eq_append_getElem hr, h, he]

set_option maxRecDepth 100000 in
set_option maxHeartbeats 6400000 in
theorem sames_any (A : Option Addr) (m cap : Nat) (l : List Jn.Ev) (hm : m = l.length) (A0 : Option Addr) (m0 cap0 : Nat) (r : List Jn.Ev) (hm0 : m0 = r.length) (w : World) (hl : Jn.Evs w A l) (hr : Jn.Evs w A0 r) (hs : l.length ≤ 1000000000000) (hmx : ∀ e ∈ l, e.mix.length ≤ 1000000000000) :
    Calls Try.prog 15 #[.slice A m cap, .slice A0 m0 cap0] w fun e w' => e = .returned (.bool (decide (l = r))) ∧ Below w.heap.size w w' := by
  subst hm hm0
  have HL := Lib.hid hl
  have HR := Lib.hid hr
  have HMX := Lib.hid hmx
  clear hl hr hmx
  by_cases hlen : l.length = r.length
  · have hb0 : ((l.length : Int) != (r.length : Int)) = false := by simp [hlen]
    have HLEN := Lib.hid hlen
    clear hlen
    go_enter Try.func15, Try.ntmps15
    go_wp2
    go_loopw [5] (fun i wr => ∃ k : Nat, k ≤ l.length ∧ i = .int .i64 (k : Int) ∧ Hid (l.take k = r.take k) ∧ Below w.heap.size w wr) (fun i _ => l.length - (intOf i).toNat)
    case atStart => exact ⟨0, by omega, rfl, rfl, Below.refl _ _⟩
    case round =>
      obtain ⟨k, hk, rfl, HE, hb⟩ := hrel
      have HB := Lib.hid hb
      by_cases hlt : k < l.length
      · have hlt2 : k < r.length := by have := HLEN.out; omega
        obtain ⟨b, off, hA, hbl, ha⟩ := (HL.out.to hb) k _ (List.getElem?_eq_getElem hlt)
        obtain ⟨b2, off2, hA2, hbl2, ha2⟩ := (HR.out.to hb) k _ (List.getElem?_eq_getElem hlt2)
        subst hA hA2
        have HTM := Lib.hid (fun he => Jn.take_more hlt hlt2 HE.out he)
        have HNE := Lib.hid (fun he : l[k] ≠ r[k] => show l ≠ r from fun h => he (by subst h; rfl))
        have hml := HMX.out _ (List.getElem_mem hlt)
        generalize l[k] = e at ha HTM HNE hml
        generalize r[k] = f at ha2 HTM HNE
        obtain ⟨A3, n3, cap3, x0h, x1h, x2h, x3h, x4h, x5h, x6h, xn, xc, xr⟩ := ha
        obtain ⟨A4, n4, cap4, y0h, y1h, y2h, y3h, y4h, y5h, y6h, yn, yc, yr⟩ := ha2
        have HSO := Lib.hid (sameone_any e A3 n3 cap3 xn f A4 n4 cap4 yn wr.drew (xr.to ((Below.refl _ wr).drew)) (yr.to ((Below.refl _ wr).drew)) hml)
        obtain ⟨x0, x1, x2, x3, x4, x5, x6⟩ := e
        obtain ⟨y0, y1, y2, y3, y4, y5, y6⟩ := f
        unfold Jn.Ev.val at HSO
        simp only at x0h x1h x2h x3h x4h x5h y0h y1h y2h y3h y4h y5h HSO
        have HK := Lib.hid (fun (wx : World) (hw : Below wr.heap.size wr wx) => show wx.cell? ⟨b, off + k * 7, none⟩ = some (.int .i64 x0) ∧ wx.cell? ⟨b, off + k * 7 + 1, none⟩ = some (.int .i64 x1) ∧ wx.cell? ⟨b, off + k * 7 + 2, none⟩ = some (.int .i64 x2) ∧ wx.cell? ⟨b, off + k * 7 + 3, none⟩ = some (.int .i64 x3) ∧ wx.cell? ⟨b, off + k * 7 + 4, none⟩ = some (.int .i64 x4) ∧ wx.cell? ⟨b, off + k * 7 + 5, none⟩ = some (.int .i64 x5) ∧ wx.cell? ⟨b, off + k * 7 + 6, none⟩ = some (.slice A3 n3 cap3) ∧ wx.cell? ⟨b2, off2 + k * 7, none⟩ = some (.int .i64 y0) ∧ wx.cell? ⟨b2, off2 + k * 7 + 1, none⟩ = some (.int .i64 y1) ∧ wx.cell? ⟨b2, off2 + k * 7 + 2, none⟩ = some (.int .i64 y2) ∧ wx.cell? ⟨b2, off2 + k * 7 + 3, none⟩ = some (.int .i64 y3) ∧ wx.cell? ⟨b2, off2 + k * 7 + 4, none⟩ = some (.int .i64 y4) ∧ wx.cell? ⟨b2, off2 + k * 7 + 5, none⟩ = some (.int .i64 y5) ∧ wx.cell? ⟨b2, off2 + k * 7 + 6, none⟩ = some (.slice A4 n4 cap4) from
          ⟨(hw.cell (p := ⟨b, off + k * 7, none⟩) hbl).trans x0h, (hw.cell (p := ⟨b, off + k * 7 + 1, none⟩) hbl).trans x1h, (hw.cell (p := ⟨b, off + k * 7 + 2, none⟩) hbl).trans x2h, (hw.cell (p := ⟨b, off + k * 7 + 3, none⟩) hbl).trans x3h, (hw.cell (p := ⟨b, off + k * 7 + 4, none⟩) hbl).trans x4h, (hw.cell (p := ⟨b, off + k * 7 + 5, none⟩) hbl).trans x5h, (hw.cell (p := ⟨b, off + k * 7 + 6, none⟩) hbl).trans x6h,
            (hw.cell (p := ⟨b2, off2 + k * 7, none⟩) hbl2).trans y0h, (hw.cell (p := ⟨b2, off2 + k * 7 + 1, none⟩) hbl2).trans y1h, (hw.cell (p := ⟨b2, off2 + k * 7 + 2, none⟩) hbl2).trans y2h, (hw.cell (p := ⟨b2, off2 + k * 7 + 3, none⟩) hbl2).trans y3h, (hw.cell (p := ⟨b2, off2 + k * 7 + 4, none⟩) hbl2).trans y4h, (hw.cell (p := ⟨b2, off2 + k * 7 + 5, none⟩) hbl2).trans y5h, (hw.cell (p := ⟨b2, off2 + k * 7 + 6, none⟩) hbl2).trans y6h⟩)
        have HD := Lib.hid (show Below wr.heap.size wr wr.drew from (Below.refl _ wr).drew)
        have i1 : (0 : Int) ≤ (k : Int) := by omega
        have i2 : (k : Int) < (l.length : Int) := by omega
        have i3 : (k : Int) < (r.length : Int) := by omega
        generalize hdd : decide ((⟨x0, x1, x2, x3, x4, x5, x6⟩ : Jn.Ev) = ⟨y0, y1, y2, y3, y4, y5, y6⟩) = dd at HSO
        have HDD : Bx (decide ((⟨x0, x1, x2, x3, x4, x5, x6⟩ : Jn.Ev) = ⟨y0, y1, y2, y3, y4, y5, y6⟩) = dd) := ⟨hdd⟩
        have HT2 : Bx (dd = true → l.take (k + 1) = r.take (k + 1)) := ⟨fun h => HTM.out (by have := HDD.out; rw [h] at this; simpa using this)⟩
        have HN2 : Bx (dd = false → false = decide (l = r)) := ⟨fun h => by
          have := HDD.out
          rw [h] at this
          exact (decide_eq_false (HNE.out (by simpa using this))).symm⟩
        clear hb hdd HTM HNE HDD x0h x1h x2h x3h x4h x5h x6h y0h y1h y2h y3h y4h y5h y6h xn xc xr yn yc yr hml
        go_upto_region 6 with fail
        go_region_held (fun wx => wx.cell? ⟨b, off + k * 7, none⟩ = some (.int .i64 x0) ∧ wx.cell? ⟨b, off + k * 7 + 1, none⟩ = some (.int .i64 x1) ∧ wx.cell? ⟨b, off + k * 7 + 2, none⟩ = some (.int .i64 x2) ∧ wx.cell? ⟨b, off + k * 7 + 3, none⟩ = some (.int .i64 x3) ∧ wx.cell? ⟨b, off + k * 7 + 4, none⟩ = some (.int .i64 x4) ∧ wx.cell? ⟨b, off + k * 7 + 5, none⟩ = some (.int .i64 x5) ∧ wx.cell? ⟨b, off + k * 7 + 6, none⟩ = some (.slice A3 n3 cap3) ∧ wx.cell? ⟨b2, off2 + k * 7, none⟩ = some (.int .i64 y0) ∧ wx.cell? ⟨b2, off2 + k * 7 + 1, none⟩ = some (.int .i64 y1) ∧ wx.cell? ⟨b2, off2 + k * 7 + 2, none⟩ = some (.int .i64 y2) ∧ wx.cell? ⟨b2, off2 + k * 7 + 3, none⟩ = some (.int .i64 y3) ∧ wx.cell? ⟨b2, off2 + k * 7 + 4, none⟩ = some (.int .i64 y4) ∧ wx.cell? ⟨b2, off2 + k * 7 + 5, none⟩ = some (.int .i64 y5) ∧ wx.cell? ⟨b2, off2 + k * 7 + 6, none⟩ = some (.slice A4 n4 cap4))
          (first | exact HK.out _ HD.out | exact HK.out _ HB1.out) (first
          | (go_at_call 25; refine (HSO.out).mono ?_; rintro e w1 ⟨rfl, hb1⟩; have HB1 := Lib.hid (on HD.out hb1); clear hb1))
        all_goals
          cases dd with
          | true =>
            have HT3 := Lib.hid (HT2.out rfl)
            go_wp2
            go_roundw
            case rel => exact ⟨k + 1, by omega, by go_num, HT3, on HB.out HB1.out⟩
            case measure => simp [intOf]; omega
          | false =>
            have HF := Lib.hid (HN2.out rfl)
            go_wp2
            go_ret
            exact ⟨ret_bool HF.out, on HB.out HB1.out⟩
      · have hke : k = l.length := by omega
        subst hke
        have HF := Lib.hid (show decide (l = r) = true by
          rw [decide_eq_true_iff]
          have := HE.out
          rw [List.take_length, HLEN.out, List.take_length] at this
          exact this)
        clear hb
        go_wp2
        go_ret
        exact ⟨ret_bool HF.out.symm, HB.out⟩
  · have hb0 := beq_f (show (l.length : Int) ≠ (r.length : Int) by omega)
    have HF := Lib.hid (show decide (l = r) = false by
      rw [decide_eq_false_iff_not]
      intro h
      exact hlen (by rw [h]))
    clear hlen
    go_enter Try.func15, Try.ntmps15
    go_wp2
    go_ret
    exact ⟨ret_bool HF.out.symm, Below.refl _ _⟩
end Go.Proofs.Ytcpdfgckfefboaa
