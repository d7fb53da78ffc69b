/- The walks of the laws JournalGets and JournalRecovers. -/
import Derived.Test.YtcpdfgckfefboaaJnArgs
import Derived.Test.YtcpdfgckfefboaaJnRRec
namespace Go.Proofs.Ytcpdfgckfefboaa
open Go.RowKit
namespace Jn
theorem rec_bd (b : List UInt8) : (recover b).1.length ≤ b.length ∧ ∀ e ∈ (recover b).1, e.mix.length ≤ 16 := by
  obtain ⟨h1, h2, _, h4⟩ := recover_form b
  have := jr_ge (recover b).1
  exact ⟨by omega, fun e he => (check_ok (h1.all e he)).2.2.2.2.2.2.1⟩
end Jn

set_option maxRecDepth 100000 in
set_option maxHeartbeats 3200000 in
theorem gets_walk (A : Option Addr) (n cap : Nat) (l : List UInt8) (w : World) (h : BytesIn w A n cap l) :
    Calls Try.prog 7 #[.slice A n cap] w fun e w' => e = .returned (.bool true) ∧ Below w.heap.size w w' := by
  by_cases hn : n ≤ 500
  · have hn' : ¬ (500 : Int) < (n : Int) := by omega
    have H1 := Lib.hid (get_any A n cap l h.len h.room h.nil w h.reads (by rw [← h.len]; omega))
    have H2 := Lib.hid (fun w' (hb : Below w.heap.size w w') => rget_any A n cap l h.len h.room w' (h.reads.to hb) (by rw [← h.len]; omega))
    have hmx := Jn.get_mix l
    generalize Jn.get l = p at H1 H2 hmx
    obtain ⟨⟨K, T, a, b, c, d, m⟩, er⟩ := p
    simp only at hmx
    have hcc : (er == er) = true := by simp
    clear h hn
    go_enter Try.func7, Try.ntmps7
    go_wp2_with fail
    refine H1.out.mono ?_
    rintro e w1 ⟨A1, n1, cap1, rfl, hn1, hc1, hr1, hi1, hb1⟩
    unfold Jn.Ev.val
    simp only at hn1 hr1 ⊢
    have HB1 : Bx (Below w.heap.size w (w1.alloc (.cells #[.int .i64 K, .int .i64 T, .int .i64 a, .int .i64 b, .int .i64 c, .int .i64 d, .slice A1 n1 cap1] 35))) := ⟨on hb1 (below_new w1 _)⟩
    have HV1 : Bx (EvAt (w1.alloc (.cells #[.int .i64 K, .int .i64 T, .int .i64 a, .int .i64 b, .int .i64 c, .int .i64 d, .slice A1 n1 cap1] 35)) w1.heap.size K T a b c d A1 n1 cap1) := ⟨EvAt.new w1 K T a b c d A1 n1 cap1 _ _⟩
    have HR1 : Bx (Rd (w1.alloc (.cells #[.int .i64 K, .int .i64 T, .int .i64 a, .int .i64 b, .int .i64 c, .int .i64 d, .slice A1 n1 cap1] 35)) A1 (iv m)) := ⟨hr1.to (below_new w1 _)⟩
    have HN1 : Bx (n1 = m.length) := ⟨hn1⟩
    clear hn1 hc1 hr1 hi1 hb1
    go_wp2_with fail
    refine (H2.out _ HB1.out).mono ?_
    rintro e w2 ⟨A2, n2, cap2, rfl, hn2, hc2, hr2, hi2, hb2⟩
    unfold Jn.Ev.val
    simp only at hn2 hr2 ⊢
    have hbx := on hb2 (below_new w2 (.cells #[.int .i64 K, .int .i64 T, .int .i64 a, .int .i64 b, .int .i64 c, .int .i64 d, .slice A2 n2 cap2] 35))
    have HB2 : Bx (Below w.heap.size w (w2.alloc (.cells #[.int .i64 K, .int .i64 T, .int .i64 a, .int .i64 b, .int .i64 c, .int .i64 d, .slice A2 n2 cap2] 35))) := ⟨on HB1.out hbx⟩
    have HV2 : Bx (EvAt (w2.alloc (.cells #[.int .i64 K, .int .i64 T, .int .i64 a, .int .i64 b, .int .i64 c, .int .i64 d, .slice A2 n2 cap2] 35)) w1.heap.size K T a b c d A1 n1 cap1) := ⟨HV1.out.to hbx⟩
    have HS := Lib.hid (sameone_any ⟨K, T, a, b, c, d, m⟩ A1 n1 cap1 HN1.out ⟨K, T, a, b, c, d, m⟩ A2 n2 cap2 hn2 (w2.alloc (.cells #[.int .i64 K, .int .i64 T, .int .i64 a, .int .i64 b, .int .i64 c, .int .i64 d, .slice A2 n2 cap2] 35)) (HR1.out.to hbx) (hr2.to (below_new w2 _)) (by show m.length ≤ _; omega))
    rw [show decide ((⟨K, T, a, b, c, d, m⟩ : Jn.Ev) = ⟨K, T, a, b, c, d, m⟩) = true by simp] at HS
    unfold Jn.Ev.val at HS
    simp only at HS
    clear hn2 hc2 hr2 hi2 hb2 hbx
    obtain ⟨c0, c1, c2, c3, c4, c5, c6, _⟩ := HV2.out
    go_wp2_with fail
    refine HS.out.mono ?_
    rintro e w3 ⟨rfl, hb3⟩
    have HB3 : Bx (Below w.heap.size w w3) := ⟨on HB2.out hb3⟩
    clear hb3 c0 c1 c2 c3 c4 c5 c6
    go_wp2_with fail
    refine (awake_any w3).mono ?_
    rintro e w4 ⟨rfl, hb4⟩
    go_wp2
    go_ret
    exact ⟨rfl, on HB3.out hb4⟩
  · have hn' : (500 : Int) < (n : Int) := by omega
    clear h hn
    go_enter Try.func7, Try.ntmps7
    go_wp2_with fail
    refine (awake_any w).mono ?_
    rintro e w3 ⟨rfl, hb3⟩
    go_wp2
    go_ret
    exact ⟨rfl, hb3⟩

set_option maxRecDepth 100000 in
set_option maxHeartbeats 3200000 in
theorem recovers_walk (A : Option Addr) (n cap : Nat) (l : List UInt8) (w : World) (h : BytesIn w A n cap l) :
    Calls Try.prog 8 #[.slice A n cap] w fun e w' => e = .returned (.bool true) ∧ Below w.heap.size w w' := by
  by_cases hn : n ≤ 1000
  · have hn' : ¬ (1000 : Int) < (n : Int) := by omega
    have H1 := Lib.hid (recover_any A n cap l h.len h.room w h.reads (by rw [← h.len]; omega))
    have H2 := Lib.hid (fun w' (hb : Below w.heap.size w w') => rrecover_any A n cap l h.len h.room w' (h.reads.to hb) (by rw [← h.len]; omega))
    obtain ⟨hlen, hmx⟩ := Jn.rec_bd l
    have hlen2 : (Jn.recover l).1.length ≤ 1000 := by rw [← h.len] at hlen; omega
    clear hlen
    generalize Jn.recover l = p at H1 H2 hlen2 hmx
    obtain ⟨es, k⟩ := p
    simp only at hlen2 hmx
    have HLN : Bx (es.length ≤ 1000) := ⟨hlen2⟩
    have HMX : Bx (∀ e ∈ es, e.mix.length ≤ 16) := ⟨hmx⟩
    have hcc : ((k : Int) == (k : Int)) = true := by simp
    clear h hn hlen2 hmx
    go_enter Try.func8, Try.ntmps8
    go_wp2_with fail
    refine H1.out.mono ?_
    rintro e w1 ⟨A1, n1, cap1, L1, rfl, hn1, hL1, ho1, hg1, hb1⟩
    simp only at hn1 hL1
    have HB1 : Bx (Below w.heap.size w w1) := ⟨hb1⟩
    have HN1 : Bx (n1 = es.length) := ⟨hn1⟩
    have HV1 : Bx (Jn.Evs w1 A1 es) := ⟨by have := Jn.own7_evs ho1 hg1; rwa [hL1] at this⟩
    clear hn1 hL1 ho1 hg1 hb1
    go_wp2_with fail
    refine (H2.out _ HB1.out).mono ?_
    rintro e w2 ⟨A2, n2, cap2, L2, rfl, hn2, hL2, ho2, hg2, hb2⟩
    simp only at hn2 hL2
    have HB2 : Bx (Below w.heap.size w w2) := ⟨on HB1.out hb2⟩
    have HS := Lib.hid (sames_any A1 n1 cap1 es HN1.out A2 n2 cap2 es hn2 w2 (HV1.out.to hb2) (by have := Jn.own7_evs ho2 hg2; rwa [hL2] at this) (by have := HLN.out; omega) (fun e he => by have := HMX.out e he; omega))
    rw [show decide (es = es) = true by simp] at HS
    clear hn2 hL2 ho2 hg2 hb2
    go_wp2_with fail
    refine HS.out.mono ?_
    rintro e w3 ⟨rfl, hb3⟩
    have HB3 : Bx (Below w.heap.size w w3) := ⟨on HB2.out hb3⟩
    clear hb3
    go_wp2_with fail
    refine (awake_any w3).mono ?_
    rintro e w4 ⟨rfl, hb4⟩
    go_wp2
    go_ret
    exact ⟨rfl, on HB3.out hb4⟩
  · have hn' : (1000 : Int) < (n : Int) := by omega
    clear h hn
    go_enter Try.func8, Try.ntmps8
    go_wp2_with fail
    refine (awake_any w).mono ?_
    rintro e w3 ⟨rfl, hb3⟩
    go_wp2
    go_ret
    exact ⟨rfl, hb3⟩
end Go.Proofs.Ytcpdfgckfefboaa
