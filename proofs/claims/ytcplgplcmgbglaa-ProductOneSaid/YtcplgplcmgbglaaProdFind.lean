/- The walks of Find. -/
import Derived.Test.YtcplgplcmgbglaaProdOne
namespace Go.Proofs.Ytcplgplcmgbglaa
open Go.RowKit

namespace Pd
/-- The product has this code. -/
def same (c : ByteArray) (p : Prod) : Bool := p.code.toList == c.toList
def idx (l : List Prod) (c : ByteArray) : Option Nat := l.findIdx? (same c)
def idxI : Option Nat → Int | some k => k | none => -1
def findR : Option Nat → Int × Bool | some k => (k, true) | none => (0, false)

theorem idx_found (l : List Prod) (c : ByteArray) (k : Nat) (p : Prod) (h : l[k]? = some p) (hn : (l.take k).any (same c) = false) (hs : same c p = true) : idx l c = some k := by
  have hk : k < l.length := by
    rcases Nat.lt_or_ge k l.length with h1 | h1
    · exact h1
    · rw [List.getElem?_eq_none h1] at h; cases h
  unfold idx
  rw [List.findIdx?_eq_some_iff_getElem]
  have hp : l[k] = p := by rw [List.getElem?_eq_getElem hk] at h; exact Option.some.inj h
  refine ⟨hk, by rw [hp]; exact hs, fun j hj => ?_⟩
  rw [List.any_eq_false] at hn
  have : l[j] ∈ l.take k := by
    rw [List.mem_iff_getElem]
    exact ⟨j, by rw [List.length_take]; omega, by rw [List.getElem_take]⟩
  exact hn _ this
theorem idx_none (l : List Prod) (c : ByteArray) (hn : l.any (same c) = false) : idx l c = none := by
  unfold idx
  rw [List.findIdx?_eq_none_iff]
  rw [List.any_eq_false] at hn
  intro x hx
  simpa using hn x hx
theorem idx_lt (l : List Prod) (c : ByteArray) (k : Nat) (h : idx l c = some k) : k < l.length := by
  unfold idx at h
  rw [List.findIdx?_eq_some_iff_getElem] at h
  exact h.1
end Pd

/-- The function literal of Find: does the product have the code that the captured variable holds? -/
theorem find1_any (p : Pd.Prod) (c : ByteArray) (b : Nat) (w : World) (hc : w.cell? ⟨b, 0, none⟩ = some (.string c)) (hb : b < w.heap.size) :
    Calls Try.prog 25 #[p.val, .pointer (some ⟨b, 0, none⟩)] w fun e w' => e = .returned (.bool (Pd.same c p)) ∧ w.alloc p.obj = w' := by
  unfold Pd.Prod.val Pd.Prod.obj Pd.same
  have hc' : (w.alloc (.cells #[.string p.code, .int .i64 p.producer, .int .i64 p.deposit, .int .i64 p.material, .int .i64 p.grams] 36)).cell? ⟨b, 0, none⟩ = some (.string c) := by
    rw [World.cell?_alloc_lt _ _ _ hb]; exact hc
  go_enter Try.func25, Try.ntmps25
  go_wp2
  go_ret
  exact ⟨rfl, rfl⟩

set_option maxHeartbeats 800000 in
theorem index_any (A : Option Addr) (cap : Nat) (l : List Pd.Prod) (c : ByteArray) (b : Nat) (w : World) (hP : Pd.Prods w A l) (hm : l.length ≤ 9223372036854775807) (hc : w.cell? ⟨b, 0, none⟩ = some (.string c)) (hb : b < w.heap.size) :
    Calls Try.prog 24 #[.slice A l.length cap, .func (.func 25) #[] #[.pointer (some ⟨b, 0, none⟩)]] w
      fun e w' => e = .returned (.int .i64 (Pd.idxI (Pd.idx l c))) ∧ Below w.heap.size w w' := by
  have HP := Lib.hid hP
  clear hP
  go_enter Try.func24, Try.ntmps24
  go_wp2
  go_loopw [8] (fun i wr => ∃ k : Nat, k ≤ l.length ∧ i = .int .i64 k ∧ (l.take k).any (Pd.same c) = false ∧ Below w.heap.size w wr) (fun i _ => l.length - (intOf i).toNat)
  case atStart => exact ⟨0, by omega, rfl, rfl, Below.refl _ _⟩
  case round =>
    obtain ⟨k, hk, rfl, hn, hbw⟩ := hrel
    have HN := Lib.hid hn
    have HB := Lib.hid hbw
    have hsz := hbw.size
    clear hn
    by_cases hlt : k < l.length
    · obtain ⟨p, hp⟩ := get_of_lt hlt
      obtain ⟨b2, off, rfl, hlt2, hf, c0, c1, c2, c3, c4⟩ := (HP.out.below (Nat.le_refl _) hbw) k p hp
      have HK := Lib.hid hp
      have hcr : wr.cell? ⟨b, 0, none⟩ = some (.string c) := by rw [hbw.cell hb]; exact hc
      clear hbw hp hf hc
      have hcall := find1_any p c b wr hcr (by omega)
      unfold Pd.Prod.val at hcall
      have HCall := Lib.hid hcall
      clear hcall
      go_wp2_with fail
      refine HCall.out.mono ?_
      rintro e w' ⟨rfl, rfl⟩
      by_cases hs : Pd.same c p = true
      · have HF := Lib.hid (Pd.idx_found l c k p HK.out HN.out hs)
        go_wp2
        go_ret
        exact ⟨ret_int1 (by rw [HF.out]; rfl), HB.out.alloc hsz _⟩
      · have hs' : Pd.same c p = false := by simpa using hs
        have HS := Lib.hid (show (l.take (k + 1)).any (Pd.same c) = false by rw [Pd.any_snoc _ _ _ _ HK.out, HN.out, hs']; rfl)
        clear hs
        go_wp2
        go_roundw
        case rel => exact ⟨k + 1, by omega, by go_num, HS.out, HB.out.alloc hsz _⟩
        case measure => simp [intOf]; omega
    · have hke : k = l.length := by omega
      subst hke
      have HF := Lib.hid (Pd.idx_none l c (by have := HN.out; rwa [List.take_length] at this))
      clear hbw
      go_wp2
      go_ret
      exact ⟨ret_int1 (by rw [HF.out]; rfl), HB.out⟩

set_option maxHeartbeats 800000 in
theorem find_any (A : Option Addr) (cap : Nat) (l : List Pd.Prod) (c : ByteArray) (w : World) (hP : Pd.Prods w A l) (hm : l.length ≤ 9223372036854775807) :
    Calls Try.prog 18 #[.slice A l.length cap, .string c] w fun e w' => e = .returned (.tuple #[.int .i64 (Pd.findR (Pd.idx l c)).1, .bool (Pd.findR (Pd.idx l c)).2]) ∧ Below w.heap.size w w' := by
  have HP := Lib.hid hP
  clear hP
  have hbn := below_new w (.cells #[.string c] 9)
  have HI := Lib.hid (index_any A cap l c w.heap.size (w.alloc (.cells #[.string c] 9)) (HP.out.below (Nat.le_refl _) hbn) hm (by simp) (by simp))
  have HB := Lib.hid hbn
  clear hbn
  rcases hi : Pd.idx l c with _ | k
  · rw [hi] at HI
    clear hi
    go_enter Try.func18, Try.ntmps18
    go_wp2_with fail
    refine HI.out.mono ?_
    rintro e w' ⟨rfl, hb⟩
    unfold Pd.idxI
    go_wp2
    go_ret2
    exact ⟨rfl, HB.out.trans (hb.mono (by simp))⟩
  · have hk := Pd.idx_lt l c k hi
    rw [hi] at HI
    clear hi
    go_enter Try.func18, Try.ntmps18
    go_wp2_with fail
    refine HI.out.mono ?_
    rintro e w' ⟨rfl, hb⟩
    unfold Pd.idxI
    simp only
    have h0 : (0 : Int) ≤ (k : Int) := by omega
    go_wp2
    go_ret2
    exact ⟨rfl, HB.out.trans (hb.mono (by simp))⟩

set_option maxHeartbeats 800000 in
theorem rfind_any (A : Option Addr) (cap : Nat) (l : List Pd.Prod) (c : ByteArray) (w : World) (hP : Pd.Prods w A l) (hm : l.length ≤ 9223372036854775807) :
    Calls Try.prog 19 #[.slice A l.length cap, .string c] w fun e w' => e = .returned (.tuple #[.int .i64 (Pd.findR (Pd.idx l c)).1, .bool (Pd.findR (Pd.idx l c)).2]) ∧ Below w.heap.size w w' := by
    go_enter Try.func19, Try.ntmps19
    have HP := Lib.hid hP
    clear hP
    go_wp2
    go_loopw [10] (fun i wr => ∃ k : Nat, k ≤ l.length ∧ i = .int .i64 k ∧ (l.take k).any (Pd.same c) = false ∧ Below w.heap.size w wr) (fun i _ => l.length - (intOf i).toNat)
    case atStart => exact ⟨0, by omega, rfl, rfl, Below.refl _ _⟩
    case round =>
      obtain ⟨k, hk, rfl, hn, hb⟩ := hrel
      have HN := Lib.hid hn
      have HB := Lib.hid hb
      have hsz := hb.size
      clear hn
      by_cases hlt : k < l.length
      · obtain ⟨p, hp⟩ := get_of_lt hlt
        obtain ⟨b, off, rfl, hlt2, hf, c0, c1, c2, c3, c4⟩ := (HP.out.below (Nat.le_refl _) hb) k p hp
        have HK := Lib.hid hp
        clear hb hp hf
        by_cases hs : Pd.same c p = true
        · have HF := Lib.hid (Pd.idx_found l c k p HK.out HN.out hs)
          unfold Pd.same at hs
          go_wp2
          go_ret2
          exact ⟨ret_intbool (by rw [HF.out]; rfl) (by rw [HF.out]; rfl), HB.out.alloc hsz _⟩
        · have hs' : Pd.same c p = false := by simpa using hs
          have HS := Lib.hid (show (l.take (k + 1)).any (Pd.same c) = false by rw [Pd.any_snoc _ _ _ _ HK.out, HN.out, hs']; rfl)
          unfold Pd.same at hs'
          clear hs
          go_wp2
          go_roundw
          case rel => exact ⟨k + 1, by omega, by go_num, HS.out, HB.out.alloc hsz _⟩
          case measure => simp [intOf]; omega
      · have hke : k = l.length := by omega
        subst hke
        have HF := Lib.hid (Pd.idx_none l c (by have := HN.out; rwa [List.take_length] at this))
        clear hb
        go_wp2
        go_ret2
        exact ⟨ret_intbool (by rw [HF.out]; rfl) (by rw [HF.out]; rfl), HB.out⟩
end Go.Proofs.Ytcplgplcmgbglaa
