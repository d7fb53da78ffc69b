/- The walks of Steps, and of the reference's. -/
import Derived.Test.YtaaoeiffpldjmaaJetWin
namespace Go.Proofs.Ytaaoeiffpldjmaa
open Go.RowKit
theorem ret_v {a b : Int} (h : a = b) : Value.int .i64 a = .int .i64 b := by rw [h]

set_option maxRecDepth 100000 in
set_option maxHeartbeats 3200000 in
theorem steps_any (A : Option Addr) (n cap : Nat) (l : List Jt.Win) (hn : n = l.length) (w : World) (hr : Jt.Wins w A l) :
    Calls Try.prog 21 #[.slice A n cap] w fun e w' => e = .returned (.tuple #[.int .i64 (Jt.steps l).1, .int .i64 (Jt.steps l).2]) ∧ Below w.heap.size w w' := by
  subst hn
  have HR := Lib.hid hr
  clear hr
  by_cases hbig : 512 < l.length
  · have hb2 : (512 : Int) < (l.length : Int) := by omega
    have HF := Lib.hid (show Jt.steps l = (0, 8) by unfold Jt.steps; rw [if_pos hbig])
    go_enter Try.func21, Try.ntmps21
    go_wp2
    go_ret2
    exact ⟨ret_pair HF.out, Below.refl _ _⟩
  have hb3 : ¬ (512 : Int) < (l.length : Int) := by omega
  obtain ⟨res, hres⟩ : ∃ res, res = Jt.steps l := ⟨_, rfl⟩
  rw [← hres]
  have HS := Lib.hid hres
  have HBIG := Lib.hid hbig
  clear hres
  go_enter Try.func21, Try.ntmps21
  go_wp2
  go_loopw [4, 12] (fun s i wr => ∃ (k : Nat) (z : Int), k ≤ l.length ∧ i = .int .i64 (k : Int) ∧ s = .int .i64 z ∧ 0 ≤ z ∧ z ≤ 2097152 * (k : Int) ∧ Hid (z = Jt.part l k) ∧ Hid (∀ q ∈ l.take k, ¬ Jt.bad q) ∧ Below w.heap.size w wr) (fun _ i _ => l.length - (intOf i).toNat)
  case atStart => exact ⟨0, 0, by omega, rfl, rfl, by omega, by omega, Lib.hid rfl, Lib.hid (by simp), Below.refl _ _⟩
  case round =>
    obtain ⟨k, z, hk, rfl, rfl, hz0, hz1, HZ, HG, hbw⟩ := hrel
    have HB := Lib.hid hbw
    have hsz := hbw.size
    by_cases hlt : k < l.length
    · obtain ⟨p, hp⟩ := get_of_lt hlt
      obtain ⟨b, off, rfl, hlt2, c0, c1⟩ := (HR.out.to hbw) k p hp
      have HK := Lib.hid hp
      clear hbw hp
      obtain ⟨x, y⟩ := p
      simp only at c0 c1
      have hki : (k : Int) < (l.length : Int) := by omega
      have hcase : x < 0 ∨ (¬ x < 0 ∧ y < x) ∨ (¬ x < 0 ∧ ¬ y < x ∧ 2097152 < y) ∨ (¬ x < 0 ∧ ¬ y < x ∧ ¬ 2097152 < y) := by omega
      rcases hcase with h1 | ⟨h1, h2⟩ | ⟨h1, h2, h3⟩ | ⟨h1, h2, h3⟩
      · have HF := Lib.hid (show res = (0, 1) by rw [HS.out]; exact Jt.steps_bad l k _ HBIG.out HK.out (.inl h1))
        clear hbig
        go_wp2
        go_ret2
        exact ⟨ret_pair HF.out, HB.out.alloc hsz _⟩
      · have HF := Lib.hid (show res = (0, 1) by rw [HS.out]; exact Jt.steps_bad l k _ HBIG.out HK.out (.inr (.inl h2)))
        clear hbig
        go_wp2
        go_ret2
        exact ⟨ret_pair HF.out, HB.out.alloc hsz _⟩
      · have HF := Lib.hid (show res = (0, 1) by rw [HS.out]; exact Jt.steps_bad l k _ HBIG.out HK.out (.inr (.inr h3)))
        clear hbig
        go_wp2
        go_ret2
        exact ⟨ret_pair HF.out, HB.out.alloc hsz _⟩
      · have HN := Lib.hid (show z + (y - x) = Jt.part l (k + 1) by rw [Jt.part_succ l k _ HK.out, HZ.out])
        have HG2 := Lib.hid (Jt.good_succ HG.out HK.out (fun hx => by rcases hx with h | h | h <;> simp only at h <;> omega))
        have hklt : (k : Int) < 512 := by omega
        clear hbig
        go_wp2
        go_roundw
        case rel => exact ⟨k + 1, z + (y - x), by omega, by go_num, rfl, by omega, by omega, HN, HG2, HB.out.alloc hsz _⟩
        case measure => simp [intOf]; omega
    · have hke : k = l.length := by omega
      have HF := Lib.hid (show res = (z, 0) by
        rw [HS.out, HZ.out, hke, Jt.steps_good l HBIG.out (by have := HG.out; rw [hke, List.take_length] at this; exact this)]
        unfold Jt.part
        rw [List.take_length])
      have hki : ¬ (k : Int) < (l.length : Int) := by omega
      clear hbw hbig
      go_wp2
      go_ret2
      exact ⟨ret_pair HF.out, HB.out⟩

set_option maxRecDepth 100000 in
set_option maxHeartbeats 3200000 in
theorem rsteps_any (A : Option Addr) (n cap : Nat) (l : List Jt.Win) (hn : n = l.length) (w : World) (hr : Jt.Wins w A l) :
    Calls Try.prog 22 #[.slice A n cap] w fun e w' => e = .returned (.tuple #[.int .i64 (Jt.steps l).1, .int .i64 (Jt.steps l).2]) ∧ Below w.heap.size w w' := by
  subst hn
  have HR := Lib.hid hr
  clear hr
  by_cases hbig : 512 < l.length
  · have hb2 : (512 : Int) < (l.length : Int) := by omega
    have HF := Lib.hid (show Jt.steps l = (0, 8) by unfold Jt.steps; rw [if_pos hbig])
    go_enter Try.func22, Try.ntmps22
    go_wp2
    go_ret2
    exact ⟨ret_pair HF.out, Below.refl _ _⟩
  have hb3 : ¬ (512 : Int) < (l.length : Int) := by omega
  obtain ⟨res, hres⟩ : ∃ res, res = Jt.steps l := ⟨_, rfl⟩
  rw [← hres]
  have HS := Lib.hid hres
  have HBIG := Lib.hid hbig
  clear hres
  go_enter Try.func22, Try.ntmps22
  go_wp2
  go_loopw [4, 12] (fun s i wr => ∃ (k : Nat) (z : Int), k ≤ l.length ∧ i = .int .i64 (k : Int) ∧ s = .int .i64 z ∧ 0 ≤ z ∧ z ≤ 2097152 * (k : Int) ∧ Hid (z = Jt.part l k) ∧ Hid (∀ q ∈ l.take k, ¬ Jt.bad q) ∧ Below w.heap.size w wr) (fun _ i _ => l.length - (intOf i).toNat)
  case atStart => exact ⟨0, 0, by omega, rfl, rfl, by omega, by omega, Lib.hid rfl, Lib.hid (by simp), Below.refl _ _⟩
  case round =>
    obtain ⟨k, z, hk, rfl, rfl, hz0, hz1, HZ, HG, hbw⟩ := hrel
    have HB := Lib.hid hbw
    have hsz := hbw.size
    by_cases hlt : k < l.length
    · obtain ⟨p, hp⟩ := get_of_lt hlt
      obtain ⟨b, off, rfl, hlt2, c0, c1⟩ := (HR.out.to hbw) k p hp
      have HK := Lib.hid hp
      clear hbw hp
      obtain ⟨x, y⟩ := p
      simp only at c0 c1
      have hki : (k : Int) < (l.length : Int) := by omega
      have hcase : x < 0 ∨ (¬ x < 0 ∧ y < x) ∨ (¬ x < 0 ∧ ¬ y < x ∧ 2097152 < y) ∨ (¬ x < 0 ∧ ¬ y < x ∧ ¬ 2097152 < y) := by omega
      rcases hcase with h1 | ⟨h1, h2⟩ | ⟨h1, h2, h3⟩ | ⟨h1, h2, h3⟩
      · have HF := Lib.hid (show res = (0, 1) by rw [HS.out]; exact Jt.steps_bad l k _ HBIG.out HK.out (.inl h1))
        clear hbig
        go_wp2
        go_ret2
        exact ⟨ret_pair HF.out, HB.out.alloc hsz _⟩
      · have HF := Lib.hid (show res = (0, 1) by rw [HS.out]; exact Jt.steps_bad l k _ HBIG.out HK.out (.inr (.inl h2)))
        clear hbig
        go_wp2
        go_ret2
        exact ⟨ret_pair HF.out, HB.out.alloc hsz _⟩
      · have HF := Lib.hid (show res = (0, 1) by rw [HS.out]; exact Jt.steps_bad l k _ HBIG.out HK.out (.inr (.inr h3)))
        clear hbig
        go_wp2
        go_ret2
        exact ⟨ret_pair HF.out, HB.out.alloc hsz _⟩
      · have HN := Lib.hid (show z + (y - x) = Jt.part l (k + 1) by rw [Jt.part_succ l k _ HK.out, HZ.out])
        have HG2 := Lib.hid (Jt.good_succ HG.out HK.out (fun hx => by rcases hx with h | h | h <;> simp only at h <;> omega))
        have hklt : (k : Int) < 512 := by omega
        clear hbig
        go_wp2
        go_roundw
        case rel => exact ⟨k + 1, z + (y - x), by omega, by go_num, ret_v (by omega), by omega, by omega, HN, HG2, HB.out.alloc hsz _⟩
        case measure => simp [intOf]; omega
    · have hke : k = l.length := by omega
      have HF := Lib.hid (show res = (z, 0) by
        rw [HS.out, HZ.out, hke, Jt.steps_good l HBIG.out (by have := HG.out; rw [hke, List.take_length] at this; exact this)]
        unfold Jt.part
        rw [List.take_length])
      have hki : ¬ (k : Int) < (l.length : Int) := by omega
      clear hbw hbig
      go_wp2
      go_ret2
      exact ⟨ret_pair HF.out, HB.out⟩
end Go.Proofs.Ytaaoeiffpldjmaa
