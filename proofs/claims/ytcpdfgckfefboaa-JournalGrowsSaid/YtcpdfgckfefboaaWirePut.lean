/- The walks of add, room, PutUint, PutInt. -/
import Derived.Test.YtcpdfgckfefboaaWireBits
namespace Go.Proofs.Ytcpdfgckfefboaa
open Go.RowKit

theorem info_u8 : (Try.prog.info? 5).map (fun i => (i.zero, i.size, i.bytes)) = some (some (.int .u8 0), 1, 1) := by kernel_rfl

/-- The call returns a row of its own (from block B on) that holds the bytes l; below B nothing has turned. -/
def RetRow (B : Nat) (w : World) (l : List UInt8) (e : Ending) (w' : World) : Prop :=
  ∃ A n cap, e = .returned (.slice A n cap) ∧ n = l.length ∧ w'.ownsRow B 5 1 (.slice A n cap) n (bv l) ∧ Below B w w'

theorem ret_slice {A A' : Option Addr} {n n' c c' : Nat} (h : A = A') (h1 : n = n') (h2 : c = c') : Ending.returned (.slice A n c) = .returned (.slice A' n' c') := by rw [h, h1, h2]
theorem bv_snoc (l : List UInt8) (c : UInt8) : bv l ++ [Value.int .u8 (c.toNat : Int)] = bv (l ++ [c]) := by simp [bv]

set_option maxRecDepth 100000 in
set_option maxHeartbeats 1600000 in
theorem add_any (B : Nat) (A : Option Addr) (n cap : Nat) (l : List UInt8) (hn : n = l.length) (u : Nat) (w : World) (hu : u < 18446744073709551616)
    (hown : w.ownsRow B 5 1 (.slice A n cap) n (bv l)) (hl : l.length ≤ 1000000000000) (hB : B ≤ w.heap.size) :
    Calls Try.prog 49 #[.slice A n cap, .int .u64 (u : Int)] w (RetRow B w (l ++ Wp.varint u)) := by
  subst hn
  obtain ⟨i0, hi, hz0, hz1, hz2⟩ := info_parts info_u8
  go_enter Try.func49, Try.ntmps49
  go_wp2
  go_loopw [0, 1] (fun v x wr => ∃ (A : Option Addr) (cap : Nat) (pre : List UInt8) (uu : Nat), v = .slice A pre.length cap ∧ x = .int .u64 (uu : Int) ∧ uu < 18446744073709551616 ∧ Hid (pre ++ Wp.varint uu = l ++ Wp.varint u) ∧
      wr.ownsRow B 5 1 (.slice A pre.length cap) pre.length (bv pre) ∧ Below B w wr) (fun _ x _ => (intOf x).toNat)
  case atStart => exact ⟨A, cap, l, u, rfl, rfl, hu, rfl, hown, Below.refl _ _⟩
  case round =>
    obtain ⟨A, cap, pre, uu, rfl, rfl, huu, HE, ho, hb⟩ := hrel
    have HO := Lib.hid ho
    have HB := Lib.hid hb
    have hsz := hb.size
    have hpl : pre.length ≤ l.length + 10 := by
      have h1 := congrArg List.length HE.out
      have h2 := (Wp.varint_len u).2
      simp only [List.length_append] at h1
      omega
    clear ho hb hown
    by_cases hbig : 128 ≤ uu
    · have hbo := Wp.byte_or uu
      obtain ⟨c, hc⟩ : ∃ c, c = UInt8.ofNat (uu % 128 + 128) := ⟨_, rfl⟩
      rw [← hc] at hbo
      have HC := Lib.hid hc
      have hbig' : (128 : Int) ≤ (uu : Int) := by omega
      clear hc
      go_wp2_with (at_builtin; refine wpList_app1 rfl _ _ 23 rfl B 5 i0 (.int .u8 0) 1 Try.underlying23 hi hz0 hz1 hz2 rfl _ pre.length (bv pre) rfl (HO.out.alloc _) ⟨wr.heap.size, 0, none⟩ 1 (.int .u8 (c.toNat : Int)) rfl (new0 _ _ _) rfl (by unfold maxLen; omega) (by omega) (by simp; omega) ?_; intro A' cap' w1 hcap1 hown1 hb1; have HO1 := Lib.hid hown1; have HB1 := Lib.hid hb1; clear hown1 hb1)
      have HE2 : Hid ((pre ++ [c]) ++ Wp.varint (uu / 128) = l ++ Wp.varint u) := by
        show _ = _
        rw [← HE.out, Wp.varint_big hbig huu, ← HC.out]
        simp
      have hown2 : w1.ownsRow B 5 1 (.slice A' (pre ++ [c]).length cap') (pre ++ [c]).length (bv (pre ++ [c])) := by
        have := HO1.out
        rw [bv_snoc] at this
        simpa using this
      have hb2 : Below B w w1 := (HB.out.alloc (by omega) _).trans HB1.out
      go_roundw
      case rel => exact ⟨A', cap', pre ++ [c], uu / 128, by simp, by go_num, by omega, HE2, hown2, hb2⟩
      case measure => simp [intOf]; omega
    · have hsmall : (uu : Int) < 128 := by omega
      have HV := Lib.hid (Wp.varint_small (u := uu) (by omega))
      have HC := Lib.hid (show (uu : Int) = ((UInt8.ofNat uu).toNat : Int) by rw [UInt8.toNat_ofNat']; omega)
      clear huu hbig
      go_wp2_with (at_builtin; refine wpList_app1 rfl _ _ 23 rfl B 5 i0 (.int .u8 0) 1 Try.underlying23 hi hz0 hz1 hz2 rfl _ pre.length (bv pre) rfl (HO.out.alloc _) ⟨wr.heap.size, 0, none⟩ 1 (.int .u8 (uu : Int)) rfl (new0 _ _ _) rfl (by unfold maxLen; omega) (by omega) (by simp; omega) ?_; intro A' cap' w1 hcap1 hown1 hb1; have HO1 := Lib.hid hown1; have HB1 := Lib.hid hb1; clear hown1 hb1)
      go_ret
      have he : pre ++ [UInt8.ofNat uu] = l ++ Wp.varint u := by
        rw [← HE.out, HV.out]
      rw [← he]
      refine ⟨A', _, cap', rfl, by simp, ?_, (HB.out.alloc (by omega) _).trans HB1.out⟩
      have := HO1.out
      rw [HC.out, bv_snoc] at this
      simpa using this
end Go.Proofs.Ytcpdfgckfefboaa
