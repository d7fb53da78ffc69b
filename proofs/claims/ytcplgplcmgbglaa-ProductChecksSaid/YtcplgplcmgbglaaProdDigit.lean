/- The walks of product.Digit and product.Code. -/
import Derived.Test.YtcplgplcmgbglaaComm
import Derived.Test.YtcplgplcmgbglaaProdPlain
namespace Go.Proofs.Ytcplgplcmgbglaa
open Go.RowKit

namespace Pd
theorem bytes_get (s : ByteArray) (k : Nat) (h : k < s.size) : s.data.toList[k]'(by simpa using h) = s[k] := rfl

def arr : Obj := .cells #[.int .i64 1, .int .i64 3] 41

theorem next_any (w : World) (s : ByteArray) (pos : Nat) (ty : TypeId) (h : pos < s.size) :
    (Instr.next (.pointer (some ⟨w.heap.size + 1, 0, none⟩)) true ty).run Try.prog ((w.alloc arr).iter s pos) = .ok (.tuple #[.bool true, .int .i64 pos, .int .i32 (Utf8.decode s pos).1]) ((w.alloc arr).iter s (pos + (Utf8.decode s pos).2)) := by
  have := run_next_any (P := Try.prog) (w.alloc arr) s pos ty h
  rwa [World.size_alloc] at this
theorem next_end (w : World) (s : ByteArray) (pos : Nat) (ty : TypeId) (h : ¬ pos < s.size) :
    (Instr.next (.pointer (some ⟨w.heap.size + 1, 0, none⟩)) true ty).run Try.prog ((w.alloc arr).iter s pos) = .ok (.tuple #[.bool false]) ((w.alloc arr).iter s pos) := by
  have := run_next_end (P := Try.prog) (w.alloc arr) s pos ty h
  rwa [World.size_alloc] at this
theorem arr_cell (w : World) (s : ByteArray) (pos i : Nat) : ((w.alloc arr).iter s pos).cell? ⟨w.heap.size, i, none⟩ = (#[Value.int .i64 1, .int .i64 3])[i]? := by
  unfold World.iter
  rw [World.cell?_alloc_lt _ _ _ (by simp)]
  unfold World.cell? arr
  rw [heap_alloc_new]
  simp
theorem arr_below (w : World) (s : ByteArray) (pos : Nat) : Below w.heap.size w ((w.alloc arr).iter s pos) := ((Below.refl _ _).alloc (Nat.le_refl _) _).alloc (by simp) _
theorem arr_pos (w : World) (s : ByteArray) (pos : Nat) : ((w.alloc arr).iter s pos).iterPos (w.heap.size + 1) = pos := by
  have := World.iterPos_iter (w.alloc arr) s pos
  rwa [World.size_alloc] at this

theorem isDig_iff (c : UInt8) : isDig c = true ↔ 48 ≤ c.toNat ∧ c.toNat ≤ 57 := by simp [isDig]

/-- A rune whose first byte is no digit is no digit. -/
theorem rune_not (s : ByteArray) (pos : Nat) (h : pos < s.size) (hd : isDig s[pos] = false) : ((Utf8.decode s pos).1 : Int) < 48 ∨ 57 < ((Utf8.decode s pos).1 : Int) := by
  by_cases ha : (s[pos]'h).toNat < 128
  · rw [decode_ascii s pos h ha]
    have : ¬ (48 ≤ s[pos].toNat ∧ s[pos].toNat ≤ 57) := by rw [← isDig_iff]; simp [hd]
    show ((s[pos].toNat : Nat) : Int) < 48 ∨ 57 < ((s[pos].toNat : Nat) : Int)
    omega
  · have := (decode_high s pos h (by omega)).1
    omega

theorem step0 (l : List UInt8) (k : Nat) (h : k < l.length) (hp : k % 2 = 0) : wsum false (l.take k) + ((l[k].toNat : Int) - 48) = wsum false (l.take (k + 1)) := by
  rw [take_snoc l k h, wsum_snoc, List.length_take_of_le (by omega)]
  simp [parity, hp]
theorem step1 (l : List UInt8) (k : Nat) (h : k < l.length) (hp : k % 2 = 1) : wsum false (l.take k) + 3 * ((l[k].toNat : Int) - 48) = wsum false (l.take (k + 1)) := by
  rw [take_snoc l k h, wsum_snoc, List.length_take_of_le (by omega)]
  simp [parity, hp]
theorem step_all (l : List UInt8) (k : Nat) (h : k < l.length) (ha : allDig (l.take k) = true) (hd : isDig l[k] = true) : allDig (l.take (k + 1)) = true := by
  rw [take_snoc l k h, allDig_snoc, ha, hd]; rfl
theorem wsum_take_bd (l : List UInt8) (k : Nat) (hk : k ≤ 12) (ha : allDig (l.take k) = true) : 0 ≤ wsum false (l.take k) ∧ wsum false (l.take k) ≤ 324 := by
  have h1 := wsum_bd _ ha false
  have h2 : (l.take k).length ≤ k := List.length_take_le _ _
  omega
theorem dgt_no (l : List UInt8) (h : allDig l = false) : dgt l = (0, 3) := by simp [dgt, h]
theorem dgt_len (l : List UInt8) (h : l.length ≠ 12) : dgt l = (0, 3) := by simp [dgt, h]
theorem dgt_yes (l : List UInt8) (h : l.length = 12) (ha : allDig l = true) : dgt l = ((10 - wsum false l % 10) % 10, 0) := by simp [dgt, h, ha, chk]
end Pd

set_option maxHeartbeats 400000 in
/-- product.Digit computes 'dgt'. -/
theorem digit_any (s : ByteArray) (w : World) :
    Calls Try.prog 11 #[.string s] w fun e w' => e = .returned (.tuple #[.int .i64 (Pd.dgt s.data.toList).1, .int .i64 (Pd.dgt s.data.toList).2]) ∧ Below w.heap.size w w' := by
  by_cases hs : s.size = 12
  · have hlen : s.data.toList.length = 12 := by simpa using hs
    have HL := Lib.hid hlen; clear hlen
    go_enter Try.func11, Try.ntmps11
    go_wp2
    go_loopw [5] (fun n wr => ∃ pos : Nat, pos ≤ 12 ∧ wr = (w.alloc Pd.arr).iter s pos ∧ n = .int .i64 (Pd.wsum false (s.data.toList.take pos)) ∧ Pd.allDig (s.data.toList.take pos) = true) (fun _ wr => 12 - wr.iterPos (w.heap.size + 1))
    case atStart => exact ⟨0, by omega, rfl, rfl, rfl⟩
    case round =>
      obtain ⟨pos, hp, rfl, rfl, hd⟩ := hrel
      have HD := Lib.hid hd
      obtain ⟨hb0, hb1⟩ := Pd.wsum_take_bd _ _ hp hd
      clear hd
      by_cases hlt : pos < 12
      · have hpl : pos < s.size := by omega
        by_cases hdig : Pd.isDig s[pos] = true
        · have HS := Lib.hid hdig
          have hdig' := (Pd.isDig_iff _).1 hdig
          clear hdig
          have hnx0 := fun ty => Pd.next_any w s pos ty hpl
          rw [decode_ascii s pos hpl (by omega)] at hnx0
          have hbyte : s[pos] = s.data.toList[pos]'(by simpa using hpl) := rfl
          have HB := Lib.hid hbyte
          obtain ⟨c, hc⟩ : ∃ c : Nat, c = s[pos].toNat := ⟨_, rfl⟩
          rw [← hc] at hnx0 hdig'
          have HC := Lib.hid hc
          clear hc hbyte
          have hc1 : (48 : Int) ≤ (c : Int) := by omega
          have hc2 : (c : Int) ≤ 57 := by omega
          clear hdig'
          have hcell := Pd.arr_cell w s (pos + 1) (pos % 2)
          rcases Nat.mod_two_eq_zero_or_one pos with hpar | hpar
          · have HP := Lib.hid hpar
            rw [show (#[Value.int .i64 1, .int .i64 3] : Array Value)[pos % 2]? = some (.int .i64 1) by rw [hpar]; rfl] at hcell
            clear hpar
            go_wp2
            have X := Pd.step0 s.data.toList pos (by simpa using hpl) HP.out
            have Y := Pd.step_all s.data.toList pos (by simpa using hpl) HD.out HS.out
            go_roundw
            case rel => exact ⟨pos + 1, by omega, rfl, by rw [← X, ← HB.out, ← HC.out], Y⟩
            case measure => rw [Pd.arr_pos, Pd.arr_pos]; omega
          · have HP := Lib.hid hpar
            rw [show (#[Value.int .i64 1, .int .i64 3] : Array Value)[pos % 2]? = some (.int .i64 3) by rw [hpar]; rfl] at hcell
            clear hpar
            go_wp2
            have X := Pd.step1 s.data.toList pos (by simpa using hpl) HP.out
            have Y := Pd.step_all s.data.toList pos (by simpa using hpl) HD.out HS.out
            go_roundw
            case rel => exact ⟨pos + 1, by omega, rfl, by rw [← X, ← HB.out, ← HC.out], Y⟩
            case measure => rw [Pd.arr_pos, Pd.arr_pos]; omega
        · have hdf : Pd.isDig s[pos] = false := by simpa using hdig
          have hnx := fun ty => Pd.next_any w s pos ty hpl
          have hr := Pd.rune_not s pos hpl hdf
          have hno : Pd.allDig s.data.toList = false := Pd.not_allDig pos (by simpa using hpl) hdf
          have HF := Lib.hid (Pd.dgt_no _ hno)
          clear hdf hdig hno
          rcases hr with hr | hr
          all_goals
            go_wp2
            go_ret2
            exact ⟨ret_pair HF.out, Pd.arr_below _ _ _⟩
      · have hpe : pos = 12 := by omega
        subst hpe
        have hnx := fun ty => Pd.next_end w s 12 ty (by omega)
        have hall : s.data.toList.take 12 = s.data.toList := List.take_of_length_le (by rw [HL.out]; omega)
        have HF := Lib.hid (Pd.dgt_yes _ HL.out (by rw [← hall]; exact HD.out))
        rw [hall] at hb0 hb1 ⊢
        clear hall
        go_wp2
        go_ret2
        exact ⟨ret_pair HF.out, Pd.arr_below _ _ _⟩
  · have hne : ((s.size : Int) == 12) = false := by simp; omega
    have HF := Lib.hid (Pd.dgt_len s.data.toList (by simpa using hs))
    go_enter Try.func11, Try.ntmps11
    go_wp2
    go_ret2
    exact ⟨ret_pair HF.out, Below.refl _ _⟩
end Go.Proofs.Ytcplgplcmgbglaa
