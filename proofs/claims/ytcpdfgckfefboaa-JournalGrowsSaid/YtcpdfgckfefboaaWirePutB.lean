/- The walks of room, PutUint, PutInt. -/
import Derived.Test.YtcpdfgckfefboaaWirePut
namespace Go.Proofs.Ytcpdfgckfefboaa
open Go.RowKit

theorem made_u8 (n k : Nat) (h : n + k ≤ 2000000000000) : ∃ C : Array Value, C.size = n + k ∧ ∀ W : World, (Instr.makeSlice 23 (.int .i64 (n : Int)) (.int .i64 ((n : Int) + (k : Int)))).run Try.prog W = .ok (.slice (some ⟨W.heap.size, 0, none⟩) n (n + k)) (W.alloc (.cells C 5)) := by
  obtain ⟨i0, hi, hz0, hz1, hz2⟩ := info_parts info_u8
  refine ⟨madeCells (Value.int .u8 0).cells ((n + k) * i0.size), by rw [size_madeCells, hz1, Nat.mul_one], fun W => ?_⟩
  have hr := run_make (P := Try.prog) W 23 5 i0 (.int .u8 0) Try.underlying23 hi hz0 .i64 .i64 (n : Int) ((n : Int) + (k : Int)) (by omega) (by omega) (by rw [hz2]; omega) (by omega)
  rw [show ((n : Int) + (k : Int)).toNat = n + k by omega, Int.toNat_natCast] at hr
  exact hr

theorem splice_own {w : World} {B g n k : Nat} {C : Array Value} {xs : List Value} (hC : C.size = n + k) (hx : xs.length = n) (hB : B ≤ g) (hm : n + k ≤ maxLen)
    (hg : w.heap[g]? = some (.cells (splice C.toList 0 xs).toArray 5 (0, 0))) : w.ownsRow B 5 1 (.slice (some ⟨g, 0, none⟩) n (n + k)) n xs := by
  refine ⟨by omega, .inr ⟨g, n + k, _, rfl, hB, hg, by omega, hm, ?_, ?_⟩⟩
  · rw [List.size_toArray, length_splice _ _ _ (by simp [hC]; omega)]
    simp [hC]
  · unfold splice
    simp [← hx]

theorem rd_addr {w : World} {A : Option Addr} {xs : List Value} (h : Rd w A xs) (h0 : 0 < xs.length) : ∃ ad, A = some ad ∧ ∀ j v, xs[j]? = some v → w.cell? (ad.add j) = some v := by
  obtain ⟨b, off, rfl, _, _⟩ := h 0 _ (List.getElem?_eq_getElem h0)
  refine ⟨_, rfl, fun j v hj => ?_⟩
  obtain ⟨b', off', hA, _, hc⟩ := h j v hj
  injection hA with hA
  injection hA with h1 h2
  subst h1 h2
  rw [addr_add]; exact hc

set_option maxRecDepth 100000 in
set_option maxHeartbeats 1600000 in
theorem room_any (A : Option Addr) (n cap : Nat) (l : List UInt8) (hn : n = l.length) (k : Nat) (w : World) (hr : Rd w A (bv l)) (hl : l.length + k ≤ 1000000000000) :
    Calls Try.prog 50 #[.slice A n cap, .int .i64 (k : Int)] w (RetRow w.heap.size w l) := by
  subst hn
  obtain ⟨C, hC, hmk⟩ := made_u8 l.length k (by omega)
  have HC := Lib.hid hC
  have HR := Lib.hid hr
  have hsz : (Try.prog.info? 5).map (·.size) = some 1 := by kernel_rfl
  clear hC hr
  go_enter Try.func50, Try.ntmps50
  go_wp2_with (with_reducible refine wpList_copy_splice rfl (.tmp 13) (.tmp 14) 23 23 rfl 5 Try.underlying23 hsz _ _ _ _ _ _ rfl rfl w.heap.size 0 C.toList 5 (by rw [Array.toArray_toList]; exact heap_alloc_new _ _) (bv l) (by simp [bv_length]) (fun h0 => ⟨rfl, rd_addr (HR.out.to (below_new w _)) h0⟩) (by simp [bv_length, HC.out]) (bv_one l) w.heap.size w (below_new w _) (Nat.le_refl _) ?_; intro w2 hg2 hb2)
  go_ret
  exact ⟨_, _, _, rfl, rfl, splice_own HC.out (bv_length l) (Nat.le_refl _) (by unfold maxLen; omega) hg2.out, hb2⟩

set_option maxRecDepth 100000 in
set_option maxHeartbeats 1600000 in
theorem putuint_any (A : Option Addr) (m cap : Nat) (l : List UInt8) (hm : m = l.length) (u : Nat) (w : World) (hr : Rd w A (bv l)) (hu : u < 18446744073709551616) (hl : l.length ≤ 100000000000) :
    Calls Try.prog 46 #[.slice A m cap, .int .u64 (u : Int)] w (RetRow w.heap.size w (l ++ Wp.varint u)) := by
  have HR := Lib.hid (room_any A m cap l hm 10 w hr (by omega))
  clear hr hm
  go_enter Try.func46, Try.ntmps46
  go_wp2_with fail
  refine HR.out.mono ?_
  rintro e w1 ⟨A1, n1, cap1, rfl, hn1, hown, hb⟩
  have HA := Lib.hid (add_any w.heap.size A1 n1 cap1 l hn1 u w1 hu hown (by omega) hb.size)
  have HB := Lib.hid hb
  clear hown hb hn1
  go_wp2_with fail
  refine HA.out.mono ?_
  rintro e w2 ⟨A2, n2, cap2, rfl, hn2, hown2, hb2⟩
  have HN2 := Lib.hid hn2
  clear hn2
  go_wp2
  go_ret
  exact ⟨A2, n2, cap2, rfl, HN2.out, hown2, HB.out.trans hb2⟩

set_option maxRecDepth 100000 in
set_option maxHeartbeats 1600000 in
theorem putint_any (A : Option Addr) (m cap : Nat) (l : List UInt8) (hm : m = l.length) (n : Int) (w : World) (hr : Rd w A (bv l)) (h1 : -9223372036854775808 ≤ n) (h2 : n ≤ 9223372036854775807) (hl : l.length ≤ 100000000000) :
    Calls Try.prog 32 #[.slice A m cap, .int .i64 n] w (RetRow w.heap.size w (l ++ Wp.putI n)) := by
  have HR := Lib.hid (room_any A m cap l hm 10 w hr (by omega))
  have HZ := Lib.hid (zigzag_any n h1 h2)
  have hz := Wp.zz_lt n h1 h2
  have HL := Lib.hid hz
  clear hr hz hm
  go_enter Try.func32, Try.ntmps32
  go_wp2_with fail
  refine HR.out.mono ?_
  rintro e w1 ⟨A1, n1, cap1, rfl, hn1, hown, hb⟩
  have HA := Lib.hid (add_any w.heap.size A1 n1 cap1 l hn1 (Wp.zz n) w1 HL.out hown (by omega) hb.size)
  have HB := Lib.hid hb
  clear hown hb hn1
  go_wp2_with fail
  refine (HZ.out _).mono ?_
  rintro e w' ⟨rfl, rfl⟩
  go_wp2_with fail
  refine HA.out.mono ?_
  rintro e w2 ⟨A2, n2, cap2, rfl, hn2, hown2, hb2⟩
  have HN2 := Lib.hid hn2
  clear hn2
  go_wp2
  go_ret
  exact ⟨A2, n2, cap2, rfl, HN2.out, hown2, HB.out.trans hb2⟩
end Go.Proofs.Ytcpdfgckfefboaa
