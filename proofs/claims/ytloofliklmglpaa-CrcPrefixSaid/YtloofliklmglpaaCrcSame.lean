/- The walk of the reference's Same, and the law CrcAlls. -/
import Derived.Test.YtloofliklmglpaaCrcArgs
namespace Go.Proofs.Ytloofliklmglpaa
open Go.RowKit

namespace Cr
theorem al_len : ∀ (f : Nat) (b : List UInt8) (p : Nat) (acc : List (List UInt8)), p ≤ b.length → (al f b p acc).1.length + p ≤ acc.length + b.length
  | 0, b, p, acc, h => by simp only [al]; omega
  | f + 1, b, p, acc, h => by
    simp only [al]
    split
    · split
      · rename_i h0
        obtain ⟨h1, h2⟩ := opn_bd (b.drop p)
        have h3 := (h2 h0).1
        rw [List.length_drop] at h1
        have := al_len f b (p + (opn (b.drop p)).2.1) (acc ++ [(opn (b.drop p)).1]) (by omega)
        rw [List.length_append, List.length_singleton] at this
        omega
      · simp only; omega
    · simp only; omega
theorem all_len (b : List UInt8) : (all b).1.length ≤ b.length := by
  have := al_len (b.length + 1) b 0 [] (Nat.zero_le _)
  simp only [List.length_nil] at this
  unfold all
  omega
end Cr

theorem take_more {α : Type} {l r : List α} {k : Nat} (hl : k < l.length) (hr : k < r.length) (h : l.take k = r.take k) (he : l[k] = r[k]) : l.take (k + 1) = r.take (k + 1) := by
  rw [List.take_succ_eq_append_getElem hl, List.take_succ_eq_append_getElem hr, h, he]

set_option maxRecDepth 100000 in
set_option maxHeartbeats 3200000 in
theorem csame_any (A : Option Addr) (m cap : Nat) (vs : List Value) (ls : List (List UInt8)) (A0 : Option Addr) (m0 cap0 : Nat) (us : List Value) (rs : List (List UInt8)) (w : World) (hm : m = ls.length) (hm0 : m0 = rs.length)
    (hv : Rd w A vs) (hu : Rd w A0 us) (hl : HoldsAll w vs ls) (hr : HoldsAll w us rs) (hs : ls.length ≤ 1000000000000) :
    Calls Try.prog 24 #[.slice A m cap, .slice A0 m0 cap0] w fun e w' => e = .returned (.bool (decide (ls = rs))) ∧ Below w.heap.size w w' := by
  by_cases hlen : m = m0
  · have hlr : ls.length = rs.length := by omega
    have HV := Lib.hid hv
    have HU := Lib.hid hu
    have HL := Lib.hid hl
    have HR := Lib.hid hr
    have HM := Lib.hid hm
    have HLR := Lib.hid hlr
    have hmb : m ≤ 1000000000000 := by omega
    subst hlen
    clear hv hu hl hr hm hm0 hs hlr
    go_enter Try.func24, Try.ntmps24
    go_wp2
    go_loopw [5] (fun i wr => ∃ k : Nat, k ≤ m ∧ i = .int .i64 (k : Int) ∧ Hid (ls.take k = rs.take k) ∧ Below w.heap.size w wr) (fun i _ => m - (intOf i).toNat)
    case atStart => exact ⟨0, by omega, rfl, rfl, Below.refl _ _⟩
    case round =>
      obtain ⟨k, hk, rfl, HT, hb⟩ := hrel
      have HB := Lib.hid hb
      clear hb
      by_cases hlt : k < m
      · have hkl : k < ls.length := by rw [← HM.out]; exact hlt
        have hkr : k < rs.length := by rw [← HLR.out]; exact hkl
        have hkv : k < vs.length := by rw [HL.out.1]; exact hkl
        have hku : k < us.length := by rw [HR.out.1]; exact hkr
        obtain ⟨A1, n1, cap1, hv1, hn1, _, _, hr1⟩ := HL.out.2 k vs[k] ls[k] (List.getElem?_eq_getElem hkv) (List.getElem?_eq_getElem hkl)
        obtain ⟨A2, n2, cap2, hv2, hn2, _, _, hr2⟩ := HR.out.2 k us[k] rs[k] (List.getElem?_eq_getElem hku) (List.getElem?_eq_getElem hkr)
        obtain ⟨b1, o1, hA1, hlt1, hc1⟩ := HV.out k vs[k] (List.getElem?_eq_getElem hkv)
        obtain ⟨b2, o2, hA2, hlt2, hc2⟩ := HU.out k us[k] (List.getElem?_eq_getElem hku)
        rw [hv1] at hc1
        rw [hv2] at hc2
        have hd1 : wr.drew.cell? ⟨b1, o1 + k, none⟩ = some (.slice A1 n1 cap1) := (HB.out.drew.cell (p := ⟨b1, o1 + k, none⟩) hlt1).trans hc1
        have hd2 : wr.drew.cell? ⟨b2, o2 + k, none⟩ = some (.slice A2 n2 cap2) := (HB.out.drew.cell (p := ⟨b2, o2 + k, none⟩) hlt2).trans hc2
        have hcv1 := conv_b (w := wr.drew) A1 n1 cap1 ls[k] (hr1.to HB.out.drew) hn1
        have hcv2 := conv_b (w := wr.drew) A2 n2 cap2 rs[k] (hr2.to HB.out.drew) hn2
        have HTM := Lib.hid (fun he => take_more hkl hkr HT.out he)
        have HNE := Lib.hid (fun he : ls[k] ≠ rs[k] => show ls ≠ rs from fun h => he (by subst h; rfl))
        generalize ls[k] = c1 at hcv1 HTM HNE
        generalize rs[k] = c2 at hcv2 HTM HNE
        subst hA1 hA2
        have hk1 : (k : Int) < (m : Int) := by omega
        have hd1' : wr.cell? ⟨b1, o1 + k, none⟩ = some (.slice A1 n1 cap1) := hd1
        have hd2' : wr.cell? ⟨b2, o2 + k, none⟩ = some (.slice A2 n2 cap2) := hd2
        clear hkl hkr hkv hku hv1 hv2 hn1 hn2 hr1 hr2 hlt1 hlt2 hc1 hc2
        have hboth : c1 = c2 ∨ c1 ≠ c2 := Classical.em _
        rcases hboth with heq | hne
        · subst heq
          have HT2 := Lib.hid (HTM.out rfl)
          go_upto_region 6 with fail
          go_region_held (fun w' => w'.cell? ⟨b1, o1 + k, none⟩ = some (.slice A1 n1 cap1) ∧ w'.cell? ⟨b2, o2 + k, none⟩ = some (.slice A2 n2 cap2)) (first | exact ⟨hd1, hd2⟩) (fail)
          all_goals
            go_wp2
            go_roundw
            case rel => exact ⟨k + 1, by omega, by go_num, HT2, HB.out.drew⟩
            case measure => simp [intOf]; omega
        · have hsb : (c1 == c2) = false := by simpa using hne
          have HF := Lib.hid (show decide (ls = rs) = false by simpa using HNE.out hne)
          clear hne
          go_upto_region 6 with fail
          go_region_held (fun w' => w'.cell? ⟨b1, o1 + k, none⟩ = some (.slice A1 n1 cap1) ∧ w'.cell? ⟨b2, o2 + k, none⟩ = some (.slice A2 n2 cap2)) (first | exact ⟨hd1, hd2⟩) (fail)
          all_goals
            go_wp2
            go_ret
            rw [HF.out]
            exact ⟨rfl, HB.out.drew⟩
      · have hkm : k = m := by omega
        have HF := Lib.hid (show decide (ls = rs) = true by
          have h1 := HT.out
          rw [hkm, HM.out, List.take_length, HLR.out, List.take_length] at h1
          simpa using h1)
        have hk1 : ¬ (k : Int) < (m : Int) := by omega
        go_wp2
        go_ret
        rw [HF.out]
        exact ⟨rfl, HB.out⟩
  · have hz : ((m : Int) == (m0 : Int)) = false := beq_f (by omega)
    have HF := Lib.hid (show decide (ls = rs) = false by simp; intro h; apply hlen; rw [hm, hm0, h])
    clear hv hu hl hr hm hm0 hs
    go_enter Try.func24, Try.ntmps24
    go_wp2
    go_ret
    rw [HF.out]
    exact ⟨rfl, Below.refl _ _⟩

set_option maxRecDepth 100000 in
set_option maxHeartbeats 3200000 in
theorem alls_walk (A : Option Addr) (n cap : Nat) (l : List UInt8) (w : World) (h : BytesIn w A n cap l) :
    Calls Try.prog 8 #[.slice A n cap] w fun e w' => e = .returned (.bool true) ∧ Below w.heap.size w w' := by
  by_cases hn : n ≤ 5000
  · have hl : l.length ≤ 5000 := by rw [← h.len]; exact hn
    have H1 := Lib.hid (all_any A n cap l h.len h.room w h.reads (by omega))
    have H2 := Lib.hid (fun w' (hb : Below w.heap.size w w') => rall_any A n cap l h.len h.room w' (h.reads.to hb) (by omega))
    have HLN := Lib.hid (Nat.le_trans (Cr.all_len l) (show l.length ≤ 1000000000000 by omega))
    generalize Cr.all l = s at H1 H2 HLN
    obtain ⟨s1, s2⟩ := s
    have hn' : ¬ (5000 : Int) < (n : Int) := by omega
    clear h hn hl
    go_enter Try.func8, Try.ntmps8
    go_wp2_with fail
    refine H1.out.mono ?_
    rintro e w1 ⟨A1, _, cap1, vs, rfl, rfl, hown1, hh1, hb1⟩
    have HX1 := Lib.hid (own_rd hown1)
    have HH1 := Lib.hid hh1
    have HB1 := Lib.hid hb1
    clear hown1 hb1 hh1
    go_wp2_with fail
    refine (H2.out w1 HB1.out).mono ?_
    rintro e w2 ⟨A2, _, cap2, us, rfl, rfl, hown2, hh2, hb2⟩
    have HS := Lib.hid (csame_any A1 _ cap1 vs s1 A2 _ cap2 us s1 w2 rfl rfl (HX1.out.to hb2) (own_rd hown2) (HH1.out.to hb2) hh2 HLN.out)
    have HB2 := Lib.hid (on HB1.out hb2)
    clear hown2 hb2 hh2
    go_wp2_with fail
    refine HS.out.mono ?_
    rintro e w3 ⟨rfl, hb3⟩
    go_wp2_with fail
    refine (cawake_any _).mono ?_
    rintro e w4 ⟨rfl, hb4⟩
    go_wp2
    go_ret
    exact ⟨rfl, on (on HB2.out hb3) hb4⟩
  · have hn' : (5000 : Int) < (n : Int) := by omega
    clear h hn
    go_enter Try.func8, Try.ntmps8
    go_wp2_with fail
    refine (cawake_any _).mono ?_
    rintro e w2 ⟨rfl, hb2⟩
    go_wp2
    go_ret
    exact ⟨rfl, hb2⟩
end Go.Proofs.Ytloofliklmglpaa
