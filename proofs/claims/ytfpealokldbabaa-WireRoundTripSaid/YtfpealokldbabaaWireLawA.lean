/- The walk of the law WireUints. -/
import Derived.Test.YtfpealokldbabaaWireAwake
import Derived.Deep.RegionHeld
namespace Go.Proofs.Ytfpealokldbabaa
open Go.RowKit

/-- A slice of bytes that came in. -/
structure BytesIn (w : World) (A : Option Addr) (n cap : Nat) (l : List UInt8) : Prop where
  len : n = l.length
  room : n ≤ cap
  nil : A = none → cap = 0
  reads : Rd w A (bv l)

/-- A slice of integers that came in. -/
structure IntsIn (w : World) (A : Option Addr) (n cap : Nat) (l : List Int) : Prop where
  len : n = l.length
  room : n ≤ cap
  nil : A = none → cap = 0
  i64 : I64 l
  reads : Rd w A (iv l)

set_option maxRecDepth 100000 in
set_option maxHeartbeats 3200000 in
theorem uints_walk (A : Option Addr) (n cap : Nat) (l : List UInt8) (u : Nat) (w : World) (h : BytesIn w A n cap l) (hu : u < 18446744073709551616) :
    Calls Try.prog 3 #[.slice A n cap, .int .u64 (u : Int)] w fun e w' => e = .returned (.bool true) ∧ Below w.heap.size w w' := by
  by_cases hn : n ≤ 5000
  · have hl : l.length ≤ 5000 := by rw [← h.len]; omega
    have HS := Lib.hid (fun w => small_yes A n cap ⟨#[]⟩ none 0 0 w hn (by decide) (by omega))
    have H1 := Lib.hid (takeuint_any A n cap l h.len w h.reads (by omega))
    have H2 := Lib.hid (rtakeuint_any A n cap l h.len w h.reads (by omega))
    have H3 := Lib.hid (fun w' (hb : Below w.heap.size w w') => putuint_any A n cap l h.len u w' (h.reads.to hb) hu (by omega))
    have H4 := Lib.hid (fun w' (hb : Below w.heap.size w w') => rputuint_any A n cap l h.len h.nil u w' (h.reads.to hb) hu (by omega))
    generalize Wp.takeU l = t at H1 H2
    generalize l ++ Wp.varint u = r at H3 H4
    obtain ⟨t1, t2, t3⟩ := t
    simp only at H1 H2
    clear h hl hn
    go_enter Try.func3, Try.ntmps3
    go_wp2_with fail
    refine (HS.out _).mono ?_
    rintro e w' ⟨rfl, rfl⟩
    go_wp2_with fail
    refine H1.out.mono ?_
    rintro e w' ⟨rfl, rfl⟩
    go_wp2_with fail
    refine H2.out.mono ?_
    rintro e w' ⟨rfl, rfl⟩
    go_wp2_with fail
    have HBD := Lib.hid (show Below w.heap.size w w.drew from (Below.refl _ _).drew)
    go_region_held (fun _ => True) (exact True.intro) (first
      | (go_at_call 15; refine (H3.out w.drew HBD.out).mono ?_; rintro e w1 ⟨A1, _, cap1, rfl, rfl, hown1, hb1⟩; have hcv1 := conv_b A1 _ cap1 r (own_rd hown1) rfl; have HO1 := Lib.hid hown1; have HB1 := Lib.hid (on HBD.out hb1); clear hown1 hb1)
      | (go_at_call 16; refine (H4.out w1 HB1.out).mono ?_; rintro e w2 ⟨A2, _, cap2, rfl, rfl, hown2, hb2⟩; have hcv2 := conv_b A2 _ cap2 r (own_rd hown2) rfl; have hcv3 := conv_b A1 _ cap1 r ((own_rd HO1.out).to hb2) rfl; have HB2 := Lib.hid (on HB1.out hb2); clear hown2 hb2)
      | (go_at_call 12; refine (awake_any w2).mono ?_; rintro e w4 ⟨rfl, hb4⟩))
    all_goals
      go_wp2
      go_ret
      exact ⟨rfl, on HB2.out hb4⟩
  · have HS := Lib.hid (fun w => small_no A n cap ⟨#[]⟩ none 0 0 w (.inl (by omega)))
    clear h hn
    go_enter Try.func3, Try.ntmps3
    go_wp2_with fail
    refine (HS.out _).mono ?_
    rintro e w' ⟨rfl, rfl⟩
    go_wp2_with fail
    refine (awake_any _).mono ?_
    rintro e w2 ⟨rfl, hb2⟩
    go_wp2
    go_ret
    exact ⟨rfl, hb2⟩
end Go.Proofs.Ytfpealokldbabaa
