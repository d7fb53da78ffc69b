/- The walks of the reference's SameBytes and SameOne. -/
import Derived.Test.YtcpdfgckfefboaaJnAppB
namespace Go.Proofs.Ytcpdfgckfefboaa
open Go.RowKit

set_option maxRecDepth 100000 in
set_option maxHeartbeats 1600000 in
theorem sameb_any (A : Option Addr) (n cap : Nat) (l : List UInt8) (hn : n = l.length) (A2 : Option Addr) (n2 cap2 : Nat) (l2 : List UInt8) (hn2 : n2 = l2.length) (w : World) (hr : Rd w A (bv l)) (hr2 : Rd w A2 (bv l2)) :
    Calls Try.prog 22 #[.slice A n cap, .slice A2 n2 cap2] w fun e w' => e = .returned (.bool (decide (l = l2))) ∧ w = w' := by
  have hcv1 := conv_b (w := w) A n cap l hr hn
  have hcv2 := conv_b (w := w) A2 n2 cap2 l2 hr2 hn2
  by_cases he : l = l2
  · subst he
    clear hn hn2 hr hr2
    go_enter Try.func22, Try.ntmps22
    go_wp2
    go_ret
    exact ⟨ret_bool (by simp), rfl⟩
  · have hsb : (l == l2) = false := by simpa using he
    clear hn hn2 hr hr2
    go_enter Try.func22, Try.ntmps22
    go_wp2
    go_ret
    exact ⟨ret_bool (by simp [he]), rfl⟩
set_option maxRecDepth 100000 in
set_option maxHeartbeats 6400000 in
theorem sameone_any (E : Jn.Ev) (A : Option Addr) (n cap : Nat) (hn : n = E.mix.length) (E2 : Jn.Ev) (A2 : Option Addr) (n2 cap2 : Nat) (hn2 : n2 = E2.mix.length) (w : World) (hr : Rd w A (iv E.mix)) (hr2 : Rd w A2 (iv E2.mix)) (hl : E.mix.length ≤ 1000000000000) :
    Calls Try.prog 25 #[E.val A n cap, E2.val A2 n2 cap2] w fun e w' => e = .returned (.bool (decide (E = E2))) ∧ Below w.heap.size w w' := by
  unfold Jn.Ev.val
  obtain ⟨K, T, a, b, c, d, m⟩ := E
  obtain ⟨K2, T2, a2, b2, c2, d2, m2⟩ := E2
  simp only at hn hn2 hr hr2 hl ⊢
  subst hn hn2
  have HB := Lib.hid (on (below_new w (.cells #[.int .i64 K, .int .i64 T, .int .i64 a, .int .i64 b, .int .i64 c, .int .i64 d, .slice A m.length cap] 35)) (below_new (w.alloc (.cells #[.int .i64 K, .int .i64 T, .int .i64 a, .int .i64 b, .int .i64 c, .int .i64 d, .slice A m.length cap] 35)) (.cells #[.int .i64 K2, .int .i64 T2, .int .i64 a2, .int .i64 b2, .int .i64 c2, .int .i64 d2, .slice A2 m2.length cap2] 35)))
  have HS := Lib.hid (same_any A m.length cap m rfl A2 m2.length cap2 m2 rfl ((w.alloc (.cells #[.int .i64 K, .int .i64 T, .int .i64 a, .int .i64 b, .int .i64 c, .int .i64 d, .slice A m.length cap] 35)).alloc (.cells #[.int .i64 K2, .int .i64 T2, .int .i64 a2, .int .i64 b2, .int .i64 c2, .int .i64 d2, .slice A2 m2.length cap2] 35)) (hr.to HB.out) (hr2.to HB.out) hl)
  obtain ⟨res, hres⟩ : ∃ res, res = decide ((⟨K, T, a, b, c, d, m⟩ : Jn.Ev) = ⟨K2, T2, a2, b2, c2, d2, m2⟩) := ⟨_, rfl⟩
  rw [← hres]
  have HD : Bx (res = decide ((⟨K, T, a, b, c, d, m⟩ : Jn.Ev) = ⟨K2, T2, a2, b2, c2, d2, m2⟩)) := ⟨hres⟩
  clear hr hr2 hres
  by_cases hK : K = K2
  case neg =>
    have HF : Bx (false = res) := ⟨by rw [HD.out]; simp [hK]⟩
    have hb := beq_f hK
    clear hK HD
    go_enter Try.func25, Try.ntmps25
    go_wp2
    go_ret
    exact ⟨ret_bool HF.out, HB.out⟩
  subst hK
  by_cases hT : T = T2
  case neg =>
    have HF : Bx (false = res) := ⟨by rw [HD.out]; simp [hT]⟩
    have hb := beq_f hT
    clear hT HD
    go_enter Try.func25, Try.ntmps25
    go_wp2
    go_ret
    exact ⟨ret_bool HF.out, HB.out⟩
  subst hT
  by_cases ha : a = a2
  case neg =>
    have HF : Bx (false = res) := ⟨by rw [HD.out]; simp [ha]⟩
    have hb := beq_f ha
    clear ha HD
    go_enter Try.func25, Try.ntmps25
    go_wp2
    go_ret
    exact ⟨ret_bool HF.out, HB.out⟩
  subst ha
  by_cases hb : b = b2
  case neg =>
    have HF : Bx (false = res) := ⟨by rw [HD.out]; simp [hb]⟩
    have hb := beq_f hb
    clear hb HD
    go_enter Try.func25, Try.ntmps25
    go_wp2
    go_ret
    exact ⟨ret_bool HF.out, HB.out⟩
  subst hb
  by_cases hc : c = c2
  case neg =>
    have HF : Bx (false = res) := ⟨by rw [HD.out]; simp [hc]⟩
    have hb := beq_f hc
    clear hc HD
    go_enter Try.func25, Try.ntmps25
    go_wp2
    go_ret
    exact ⟨ret_bool HF.out, HB.out⟩
  subst hc
  by_cases hd : d = d2
  case neg =>
    have HF : Bx (false = res) := ⟨by rw [HD.out]; simp [hd]⟩
    have hb := beq_f hd
    clear hd HD
    go_enter Try.func25, Try.ntmps25
    go_wp2
    go_ret
    exact ⟨ret_bool HF.out, HB.out⟩
  subst hd
  have HM : Bx (decide (m = m2) = res) := ⟨by rw [HD.out]; simp⟩
  clear HD
  generalize decide (m = m2) = dm at HS HM
  go_enter Try.func25, Try.ntmps25
  go_wp2_with fail
  refine (HS.out).mono ?_
  rintro e w' ⟨rfl, hb⟩
  have HB2 := Lib.hid (on HB.out hb)
  clear hb
  cases dm with
  | true =>
    go_wp2
    go_ret
    exact ⟨ret_bool HM.out, HB2.out⟩
  | false =>
    go_wp2
    go_ret
    exact ⟨ret_bool HM.out, HB2.out⟩
end Go.Proofs.Ytcpdfgckfefboaa
