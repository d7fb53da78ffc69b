/- The walk of the law WireLists. -/
import Derived.Test.YtfpealokldbabaaWireLawA
namespace Go.Proofs.Ytfpealokldbabaa
open Go.RowKit

namespace Wp
theorem goList_len (l : List UInt8) : ∀ (n p : Nat) (acc : List Int), p ≤ l.length → (goList l n p acc).1.length + p ≤ acc.length + l.length
  | 0, p, acc, h => by simp only [goList]; omega
  | n + 1, p, acc, h => by
    simp only [goList]
    split
    · rename_i h0
      obtain ⟨h1, h2, _, _⟩ := takeI_bd (l.drop p)
      have h3 := h2 h0
      rw [List.length_drop] at h1
      have := goList_len l n (p + (takeI (l.drop p)).2.1) (acc ++ [(takeI (l.drop p)).1]) (by omega)
      rw [List.length_append] at this
      simp only [List.length_cons, List.length_nil] at this
      omega
    · simp only [List.length_nil]; omega
theorem takeN_len (l : List UInt8) (most : Int) : (takeN l most).1.length ≤ l.length := by
  unfold takeN
  split
  · rename_i h
    have := goList_len l (takeL l most).1.toNat (takeL l most).2.1 [] (takeL_bd l most).1
    simp only [List.length_nil] at this
    omega
  · simp
end Wp

set_option maxRecDepth 100000 in
set_option maxHeartbeats 3200000 in
theorem lists_walk (A : Option Addr) (n cap : Nat) (l : List UInt8) (A0 : Option Addr) (m cap0 : Nat) (z : List Int) (most : Int) (w : World) (h : BytesIn w A n cap l) (hz : IntsIn w A0 m cap0 z) (hm : -9223372036854775808 ≤ most ∧ most ≤ 9223372036854775807) :
    Calls Try.prog 7 #[.slice A n cap, .slice A0 m cap0, .int .i64 most] w fun e w' => e = .returned (.bool true) ∧ Below w.heap.size w w' := by
  by_cases hn : n ≤ 5000 ∧ m ≤ 5000
  · have hl : l.length ≤ 5000 := by rw [← h.len]; omega
    have hzl : z.length ≤ 5000 := by rw [← hz.len]; omega
    have HT := Lib.hid (show (Wp.takeN l most).1.length ≤ 1000000000000 from Nat.le_trans (Wp.takeN_len l most) (by omega))
    have HS := Lib.hid (fun w => small_yes A n cap ⟨#[]⟩ A0 m cap0 w hn.1 (by decide) hn.2)
    have H1 := Lib.hid (takelist_any A n cap l h.len h.room most hm.1 hm.2 w h.reads (by omega))
    have H2 := Lib.hid (fun w' (hb : Below w.heap.size w w') => rtakelist_any A n cap l h.len h.room most hm.1 hm.2 w' (h.reads.to hb) (by omega))
    have H3 := Lib.hid (fun w' (hb : Below w.heap.size w w') => putlist_any A n cap l h.len A0 m cap0 z hz.len w' (h.reads.to hb) (hz.reads.to hb) hz.i64 (by omega) (by omega))
    have H4 := Lib.hid (fun w' (hb : Below w.heap.size w w') => rputlist_any A n cap l h.len h.nil A0 m cap0 z hz.len w' (h.reads.to hb) (hz.reads.to hb) hz.i64 (by omega) (by omega))
    generalize Wp.takeN l most = t at H1 H2 HT
    generalize l ++ Wp.putN z = r at H3 H4
    obtain ⟨t1, t2, t3⟩ := t
    clear hz hzl
    clear h hl hn
    go_enter Try.func7, Try.ntmps7
    go_wp2_with fail
    refine (HS.out _).mono ?_
    rintro e w' ⟨rfl, rfl⟩
    go_wp2_with fail
    refine H1.out.mono ?_
    rintro e wa ⟨Aa, _, capa, rfl, rfl, howna, hba⟩
    have HOa := Lib.hid howna
    have HBa := Lib.hid hba
    clear howna hba
    go_wp2_with fail
    refine (H2.out wa HBa.out).mono ?_
    rintro e wb ⟨Ab, _, capb, rfl, rfl, hownb, hbb⟩
    have HOb := Lib.hid (own_rd hownb)
    have HOa2 := Lib.hid ((own_rd HOa.out).to hbb)
    have HBb := Lib.hid (on HBa.out hbb)
    clear hownb hbb
    go_wp2_with fail
    have HBD := Lib.hid (show Below w.heap.size w wb.drew from HBb.out.drew)
    have HBE := Lib.hid (show Below wb.heap.size wb wb.drew from (Below.refl _ _).drew)
    go_region_held (fun _ => True) (exact True.intro) (first
      | (go_at_call 27; refine (H3.out wb.drew HBD.out).mono ?_; rintro e w1 ⟨A1, _, cap1, rfl, rfl, hown1, hb1⟩; have hcv1 := conv_b A1 _ cap1 r (own_rd hown1) rfl; have HO1 := Lib.hid hown1; have HB1 := Lib.hid (on HBD.out hb1); have HBE1 := Lib.hid (on HBE.out hb1); clear hown1 hb1)
      | (go_at_call 28; refine (H4.out w1 HB1.out).mono ?_; rintro e w2 ⟨A2, _, cap2, rfl, rfl, hown2, hb2⟩; have hcv2 := conv_b A2 _ cap2 r (own_rd hown2) rfl; have hcv3 := conv_b A1 _ cap1 r ((own_rd HO1.out).to hb2) rfl; have HB2 := Lib.hid (on HB1.out hb2); have HBE2 := Lib.hid (on HBE1.out hb2); clear hown2 hb2)
      | (go_at_call 29; refine (same_any Aa _ capa t1 rfl Ab _ capb t1 rfl w2 (HOa2.out.to HBE2.out) (HOb.out.to HBE2.out) HT.out).mono ?_; rintro e w3 ⟨rfl, hb3⟩; have HB3 := Lib.hid (on HB2.out hb3); clear hb3)
      | (go_at_call 12; refine (awake_any w3).mono ?_; rintro e w4 ⟨rfl, hb4⟩))
    all_goals
      go_wp2
      go_ret
      exact ⟨rfl, on HB3.out hb4⟩
  · have HS := Lib.hid (fun w => small_no A n cap ⟨#[]⟩ A0 m cap0 w (by omega))
    clear h hn
    go_enter Try.func7, Try.ntmps7
    go_wp2_with fail
    refine (HS.out _).mono ?_
    rintro e w' ⟨rfl, rfl⟩
    go_wp2_with fail
    refine (awake_any _).mono ?_
    rintro e w2 ⟨rfl, hb2⟩
    go_wp2
    go_ret
    exact ⟨rfl, hb2⟩
end Go.Proofs.Ytfpealokldbabaa
