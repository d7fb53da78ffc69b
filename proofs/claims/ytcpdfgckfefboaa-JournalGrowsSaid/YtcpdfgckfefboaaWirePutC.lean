/- The walks of PutText, PutList. -/
import Derived.Test.YtcpdfgckfefboaaWirePutB
namespace Go.Proofs.Ytcpdfgckfefboaa
open Go.RowKit

def I64 (l : List Int) : Prop := ∀ n ∈ l, -9223372036854775808 ≤ n ∧ n ≤ 9223372036854775807
theorem I64.at_ {l : List Int} (h : I64 l) {k : Nat} (hk : k < l.length) : -9223372036854775808 ≤ l[k] ∧ l[k] ≤ 9223372036854775807 := h _ (List.getElem_mem hk)

theorem strCells_bv (s : ByteArray) : Lib.strCells s = bv s.data.toList := rfl

/-- append of a string's bytes to an owned row. -/
theorem wpList_appS {w : World} {ops : Array Oper} {rest : List Oper} {o : Oper} {a : Act} {Q : Exit → Act → World → Prop} (hgd : o.guard = none) (sl x : Operand)
    (ho : o.op = .call { callee := .builtin .append, args := #[sl, x], argTypes := #[23, 9] })
    (B : Nat) (v : Value) (l : List UInt8) (n : Nat) (hn : n = l.length) (hs : a.eval sl = v) (hown : w.ownsRow B 5 1 v n (bv l)) (s : ByteArray) (hx : a.eval x = .string s)
    (hl : n + s.size ≤ 100000000000000) (hbase : B ≤ w.heap.size)
    (h : ∀ A cap w', w'.ownsRow B 5 1 (.slice A (n + s.size) cap) (n + s.size) (bv (l ++ s.data.toList)) → Below B w w' → wpList Try.prog ops Q rest (a.put o.dst (.slice A (n + s.size) cap)) w') : wpList Try.prog ops Q (o :: rest) a w := by
  obtain ⟨i0, hi, hz0, hz1, hz2⟩ := info_parts info_u8
  refine Lib.wpList_append_own_string w hgd sl x 23 9 ho B 5 i0 Try.underlying23 Try.underlying9 hi hz0 hz1 hz2 v n (bv l) hs hown s hx (by unfold maxLen; omega) (by omega) hbase ?_
  intro v' w' ho' hg _
  obtain ⟨A, cap, rfl, _⟩ := own_form ho'
  rw [strCells_bv, ← bv_append] at ho'
  exact h A cap w' ho' (own_below hown hg hbase)

theorem putN_snoc (l : List Int) (k : Nat) (h : k < l.length) : (l.take (k + 1)).flatMap Wp.putI = (l.take k).flatMap Wp.putI ++ Wp.putI l[k] := by
  rw [List.take_succ_eq_append_getElem h, List.flatMap_append]
  congr 1
  simp only [List.flatMap_cons, List.flatMap_nil, List.append_nil]
theorem putI_len (n : Int) : (Wp.putI n).length ≤ 10 := (Wp.varint_len _).2
theorem flat_len : ∀ (l : List Int), (l.flatMap Wp.putI).length ≤ 10 * l.length
  | [] => by simp
  | n :: r => by
    have h1 := putI_len n
    have h2 := flat_len r
    simp only [List.flatMap_cons, List.length_append, List.length_cons]
    omega

set_option maxRecDepth 100000 in
set_option maxHeartbeats 1600000 in
theorem putlist_any (A : Option Addr) (m cap : Nat) (l : List UInt8) (hm : m = l.length) (A0 : Option Addr) (m0 cap0 : Nat) (z : List Int) (hm0 : m0 = z.length) (w : World) (hr : Rd w A (bv l)) (hz : Rd w A0 (iv z)) (hi : I64 z) (hl : l.length ≤ 10000000000) (hs : z.length ≤ 10000000000) :
    Calls Try.prog 33 #[.slice A m cap, .slice A0 m0 cap0] w (RetRow w.heap.size w (l ++ Wp.putN z)) := by
  subst hm0
  have HR := Lib.hid (room_any A m cap l hm (10 + z.length) w hr (by omega))
  have HZ := Lib.hid hz
  have HI := Lib.hid hi
  clear hr hz hi hm
  go_enter Try.func33, Try.ntmps33
  go_wp2_with fail
  refine HR.out.mono ?_
  rintro e w1 ⟨A1, n1, cap1, rfl, hn1, hown, hb⟩
  have HA := Lib.hid (add_any w.heap.size A1 n1 cap1 l hn1 z.length w1 (by omega) hown (by omega) hb.size)
  have HB := Lib.hid hb
  clear hown hb hn1
  go_wp2_with fail
  refine HA.out.mono ?_
  rintro e w2 ⟨A2, n2, cap2, rfl, hn2, hown2, hb2⟩
  have HN2 := Lib.hid hn2
  clear hn2
  have HO2 := Lib.hid hown2
  have HB2 := Lib.hid (HB.out.trans hb2)
  clear hown2 hb2
  have hvl := Lib.hid (Wp.varint_len z.length).2
  go_wp2
  go_loopw [5, 19] (fun v i wr => ∃ (k : Nat) (A : Option Addr) (n cap : Nat) (q : List UInt8), k ≤ z.length ∧ i = .int .i64 (k : Int) ∧ v = .slice A n cap ∧ Hid (n = q.length) ∧ Hid (q = (l ++ Wp.varint z.length) ++ (z.take k).flatMap Wp.putI) ∧ wr.ownsRow w.heap.size 5 1 (.slice A n cap) n (bv q) ∧ Below w.heap.size w wr) (fun _ i _ => z.length - (intOf i).toNat)
  case atStart => exact ⟨0, A2, n2, cap2, l ++ Wp.varint z.length, by omega, rfl, rfl, HN2.out, (show _ = _ by simp), HO2.out, HB2.out⟩
  case round =>
    obtain ⟨k, A3, n3, cap3, q, hk, rfl, rfl, HN3, HQ, ho, hb⟩ := hrel
    have HO := Lib.hid ho
    have HB3 := Lib.hid hb
    by_cases hlt : k < z.length
    · have hql : q.length ≤ 200000000000 := by
        have h1 := flat_len (z.take k)
        have h2 := List.length_take_le k z
        have h3 := hvl.out
        rw [HQ.out]
        simp only [List.length_append]
        omega
      obtain ⟨b, off, hA, hlt2, hc⟩ := (HZ.out.to hb).ati hlt
      subst hA
      have hzb := HI.out.at_ hlt
      have HZZ := Lib.hid (zigzag_any z[k] hzb.1 hzb.2)
      have HADD := Lib.hid (add_any w.heap.size A3 n3 cap3 q HN3.out (Wp.zz z[k]) wr (Wp.zz_lt _ hzb.1 hzb.2) ho (by omega) hb.size)
      clear ho hb
      go_wp2_with fail
      refine (HZZ.out _).mono ?_
      rintro e w' ⟨rfl, rfl⟩
      go_wp2_with fail
      refine HADD.out.mono ?_
      rintro e w4 ⟨A4, n4, cap4, rfl, hn4, hown4, hb4⟩
      have HN4 : Hid (n4 = (q ++ Wp.varint (Wp.zz z[k])).length) := hn4
      have HO4 := Lib.hid hown4
      have HB4 := Lib.hid (HB3.out.trans hb4)
      clear hown4 hb4 hn4
      have HQ4 : Hid (q ++ Wp.varint (Wp.zz z[k]) = (l ++ Wp.varint z.length) ++ (z.take (k + 1)).flatMap Wp.putI) := by
        show _ = _
        rw [putN_snoc z k hlt, HQ.out]
        simp [Wp.putI]
      go_wp2
      go_roundw
      case rel => exact ⟨k + 1, A4, n4, cap4, q ++ Wp.varint (Wp.zz z[k]), by omega, by go_num, rfl, HN4, HQ4, HO4.out, HB4.out⟩
      case measure => simp [intOf]; omega
    · have hke : k = z.length := by omega
      subst hke
      have he : q = l ++ Wp.putN z := by
        rw [HQ.out, List.take_length]
        simp [Wp.putN]
      have HE := Lib.hid he
      clear he ho hb
      go_wp2
      go_ret
      refine ⟨A3, n3, cap3, rfl, ?_, ?_, HB3.out⟩
      · rw [← HE.out]; exact HN3.out
      · rw [← HE.out]; exact HO.out
end Go.Proofs.Ytcpdfgckfefboaa
