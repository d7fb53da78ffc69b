/- The walk of the law CrcDamaged. -/
import Derived.Test.YtloofliklmglpaaCrcArgs
import Derived.Test.YtloofliklmglpaaCrcLaws
import Derived.Laws.OwnMore
namespace Go.Proofs.Ytloofliklmglpaa
open Go.RowKit

theorem own_some {w : World} {B : Nat} {e : TypeId} {A : Option Addr} {n cap : Nat} {xs : List Value} (h : w.ownsRow B e 1 (.slice A n cap) n xs) (hn : 0 < n) : ∃ g, A = some ⟨g, 0, none⟩ ∧ B ≤ g := by
  rcases h.2 with ⟨_, h0⟩ | ⟨g, cap', cur, hv, hB, _⟩
  · omega
  · injection hv with hA
    exact ⟨g, hA, hB⟩
theorem bv_set (l : List UInt8) (i : Nat) (x : UInt8) : (bv l).set i (.int .u8 (x.toNat : Int)) = bv (l.set i x) := by simp [bv, List.map_set]
theorem xor_ne {a b : Nat} (hb : b ≠ 0) : a ^^^ b ≠ a := by
  intro h
  have h2 : (a ^^^ b) ^^^ a = 0 := by rw [h, Nat.xor_self]
  rw [Nat.xor_comm a b, Nat.xor_assoc, Nat.xor_self, Nat.xor_zero] at h2
  exact hb h2

set_option maxRecDepth 100000 in
set_option maxHeartbeats 6400000 in
theorem damaged_walk (A : Option Addr) (n cap : Nat) (l : List UInt8) (bk : Nat) (bits : Nat) (w : World) (h : BytesIn w A n cap l) (hn : n ≤ 5000) (hbk : bk < n + 4) (hb0 : bits ≠ 0) (hb1 : bits < 256) :
    Calls Try.prog 10 #[.slice A n cap, .int .i64 (bk : Int), .int .u8 (bits : Int)] w fun e w' => e = .returned (.bool true) ∧ Below w.heap.size w w' := by
  have hl : l.length ≤ 5000 := by rw [← h.len]; exact hn
  obtain ⟨i0, hi, hz0, hz1, hz2⟩ := info_parts info_u8
  have h1 := frame_any A n cap l h.len h.nil w h.reads (by omega)
  have hfr : Cr.fr l = (Cr.frame l, 0) := by unfold Cr.fr; rw [if_neg (by omega)]
  rw [hfr] at h1
  have hvl := Wp.varint_len l.length
  have hfl : (Cr.frame l).length = (Wp.varint l.length).length + l.length + 4 := by unfold Cr.frame; simp only [List.length_append]; rfl
  have hdam := Cr.opn_damaged l (by omega)
  have HLN := Lib.hid h.len
  obtain ⟨n1, hn1⟩ : ∃ n1, n1 = (Cr.frame l).length := ⟨_, rfl⟩
  obtain ⟨i, hii⟩ : ∃ i, i = n1 - 1 - bk := ⟨_, rfl⟩
  have hln := h.len
  have hil : i < (Cr.frame l).length := by omega
  have hiv : (Wp.varint l.length).length ≤ i := by omega
  have hd := hdam i hiv hil
  have HF1 := Lib.hid (show (bv (Cr.frame l)).length = n1 by rw [bv_length]; exact hn1.symm)
  have HN1 := Lib.hid hn1
  have hn1l : n1 ≤ 5100 := by omega
  have hi1 : (n1 : Int) - 1 - (bk : Int) = (i : Int) := by omega
  have hi2 : (i : Int) < (n1 : Int) := by omega
  have hi3 : ¬ ((n1 : Int) ≤ (bk : Int)) := by omega
  have hi4 : ¬ ((n : Int) + 4 ≤ (bk : Int)) := by omega
  have hn' : ¬ (5000 : Int) < (n : Int) := by omega
  have hz : ((bits : Int) == 0) = false := beq_f (by omega)
  have HIL := Lib.hid hil
  have hn0 : 0 < n1 := by omega
  have hbi : (bits : Int) < 256 := by omega
  have H1 := Lib.hid h1
  generalize Cr.frame l = f at H1 hd HF1 HN1 HIL
  clear h1 hfr hvl hfl hdam hn1 hii hln hil hiv hl h hbk
  go_enter Try.func10, Try.ntmps10
  go_wp2_with fail
  refine H1.out.mono ?_
  rintro e w1 ⟨A1, n1', cap1, rfl, hn1', hown1, hb1'⟩
  have hnn : n1' = n1 := by rw [HN1.out]; exact hn1'
  subst hnn
  have HX1 := Lib.hid (own_rd hown1)
  have HC1 := Lib.hid (fun hA : A1 = none => own_none hown1 hA)
  have HB1 := Lib.hid hb1'
  clear hown1 hb1' hn1'
  have hown0 := Lib.hid (World.ownsRow_lit (base := w1.heap.size) (e := 5) (size := 1) w1 #[] 0 (Nat.le_refl _) (by unfold maxLen; omega) rfl)
  simp only
  go_upto_region 7 with (at_builtin; refine wpList_appN rfl _ _ 22 rfl w1.heap.size 5 i0 (.int .u8 0) 1 Try.underlying22 hi hz0 hz1 hz2 rfl _ 0 [] rfl hown0.out A1 n1' cap1 (bv f) rfl HF1.out HC1.out (HX1.out.to (below_new w1 _)) (bv_one f) (by unfold maxLen; omega) (by omega) (by simp) n1' (Nat.zero_add n1').symm ?_; intro A2 cap2 w2 hcap2 hown2 hb2; have HO2 := Lib.hid hown2; have HB2 := Lib.hid ((below_new w1 _).trans hb2); have HC2 := Lib.hid hcap2; clear hown2 hb2 hcap2)
  obtain ⟨g, rfl, hg⟩ := own_some HO2.out hn0
  have HO3 := Lib.hid (show w2.ownsRow w1.heap.size 5 1 (.slice (some ⟨g, 0, none⟩) n1' cap2) n1' (bv f) by have := HO2.out; rwa [List.nil_append] at this)
  obtain ⟨c, hc⟩ : ∃ c, f[i]? = some c := ⟨_, List.getElem?_eq_getElem HIL.out⟩
  have hcell : w2.cell? ⟨g, i, none⟩ = some (.int .u8 (c.toNat : Int)) := by
    obtain ⟨b, o, hA, _, hc2⟩ := own_rd HO3.out i (.int .u8 (c.toNat : Int)) (by simp [bv, hc])
    cases hA
    simpa using hc2
  have hfz : w2.frozen? ⟨g, i, none⟩ = false := World.ownsRow.frozenAt HO3.out i
  obtain ⟨x, hx⟩ : ∃ x : UInt8, x = UInt8.ofNat (c.toNat ^^^ bits) := ⟨_, rfl⟩
  have hcl := c.toNat_lt
  have hxl : c.toNat ^^^ bits < 256 := Nat.xor_lt_two_pow (n := 8) hcl hb1
  have hxt : x.toNat = c.toNat ^^^ bits := by rw [hx, UInt8.toNat_ofNat']; omega
  have hxor : Go.bits .xor .u8 (c.toNat : Int) (bits : Int) = (x.toNat : Int) := by rw [hxt]; exact u8_xor_nat c.toNat bits hcl hb1
  have hxc : x ≠ c := by
    intro e
    rw [e] at hxt
    exact xor_ne hb0 hxt.symm
  have hdx := hd x (by rw [hc]; intro e; injection e with e; exact hxc e.symm)
  have hst := (HO3.out.stored i (.int .u8 (x.toNat : Int))).1
  rw [bv_set] at hst
  have HOP := Lib.hid (open_any (some ⟨g, 0, none⟩) n1' cap2 (f.set i x) (by rw [List.length_set]; exact HN1.out) HC2.out (w2.setCell ⟨g, i, none⟩ (.int .u8 (x.toNat : Int))) (own_rd hst) (by rw [List.length_set]; have := HN1.out; omega))
  rw [hdx] at HOP
  have HBS := Lib.hid (show Below w.heap.size w (w2.setCell ⟨g, i, none⟩ (.int .u8 (x.toNat : Int))) from (on HB1.out HB2.out).setCell (Nat.le_trans HB1.out.size hg) _)
  clear hd hdx hst hx hxt hxc hxl hcl hc hb0 hb1
  go_wp2_with fail
  refine HOP.out.mono ?_
  rintro e w4 ⟨A4, n4, cap4, rfl, hn4, hown4, hb4⟩
  have hn4' : n4 = 0 := hn4
  subst hn4'
  have HB4 := Lib.hid (on HBS.out hb4)
  clear hown4 hb4 hn4 hcell hfz
  simp only
  go_wp2_with fail
  refine (cawake_any _).mono ?_
  rintro e w5 ⟨rfl, hb5⟩
  go_wp2
  go_ret
  exact ⟨rfl, on HB4.out hb5⟩

set_option maxRecDepth 100000 in
set_option maxHeartbeats 3200000 in
theorem damaged_walk_int (A : Option Addr) (n cap : Nat) (l : List UInt8) (back bits : Int) (w : World) (h : BytesIn w A n cap l) (hk : -9223372036854775808 ≤ back ∧ back ≤ 9223372036854775807) (hb : 0 ≤ bits ∧ bits ≤ 255) :
    Calls Try.prog 10 #[.slice A n cap, .int .i64 back, .int .u8 bits] w fun e w' => e = .returned (.bool true) ∧ Below w.heap.size w w' := by
  by_cases hall : n ≤ 5000 ∧ 0 ≤ back ∧ back < (n : Int) + 4 ∧ bits ≠ 0
  · obtain ⟨h1, h2, h3, h4⟩ := hall
    obtain ⟨bk, rfl⟩ := Int.eq_ofNat_of_zero_le h2
    obtain ⟨bi, rfl⟩ := Int.eq_ofNat_of_zero_le hb.1
    exact damaged_walk A n cap l bk bi w h h1 (by omega) (by omega) (by omega)
  · have hcase : (5000 : Int) < (n : Int) ∨ (¬ (5000 : Int) < (n : Int) ∧ back < 0) ∨ (¬ (5000 : Int) < (n : Int) ∧ ¬ back < 0 ∧ (n : Int) + 4 ≤ back) ∨ (¬ (5000 : Int) < (n : Int) ∧ ¬ back < 0 ∧ ¬ ((n : Int) + 4 ≤ back) ∧ bits = 0) := by omega
    clear h hall
    rcases hcase with hn' | ⟨hn', hm'⟩ | ⟨hn', hm', hq'⟩ | ⟨hn', hm', hq', rfl⟩
    all_goals
      go_enter Try.func10, Try.ntmps10
      go_wp2_with fail
      refine (cawake_any _).mono ?_
      rintro e w2 ⟨rfl, hb2⟩
      go_wp2
      go_ret
      exact ⟨rfl, hb2⟩
end Go.Proofs.Ytloofliklmglpaa
